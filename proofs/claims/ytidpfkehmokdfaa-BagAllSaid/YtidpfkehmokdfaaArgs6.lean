/- For law6's laws: arguments as they come in; more on bags. -/
import Derived.Test.YtidpfkehmokdfaaBegun6
import Derived.Deep.Slices
import Derived.Deep.Strs
import Derived.WideShapes
import Derived.OpenShut
open Go Go.Proofs Go.RowKit Go.Maps Go.Sort Go.Shelf
namespace Go.Proofs.Ytidpfkehmokdfaa
/-- A slice of integers that came in. -/
def IsRow (k : IntKind) (w : World) (a : Option Addr) (len cap : Nat) (zs : List Int) : Prop :=
  (a = none ∧ len = 0 ∧ cap = 0 ∧ zs = []) ∨
  ∃ x, a = some x ∧ len ≤ cap ∧ cap ≤ maxLen ∧ zs.length = cap ∧ (∀ i, i < zs.length → w.cell? (x.add i) = some (.int k (zs.getD i 0))) ∧ ∀ n ∈ zs, (Lit.int k n).wf = true

theorem u8_of {x : Int} (h : 0 ≤ x ∧ x ≤ 255) : ∃ b : UInt8, x = (b.toNat : Int) :=
  ⟨UInt8.ofNat x.toNat, by simp [UInt8.toNat_ofNat']; omega⟩

/-- An integer's row, each cell at its own offset. -/
theorem IsRow.cellAt {k : IntKind} {w : World} {a : Option Addr} {len cap : Nat} {zs : List Int} (h : IsRow k w a len cap zs) (i : Nat) (hi : i < len) :
    ∃ g off, a = some ⟨g, off, none⟩ ∧ w.cell? ⟨g, off + i, none⟩ = some (.int k (zs.getD i 0)) ∧ (Lit.int k (zs.getD i 0)).wf = true := by
  rcases h with ⟨_, h0, _⟩ | ⟨x, rfl, hl, hm, hz, hc, hw⟩
  · omega
  · have h0 := hc 0 (by omega)
    have hs : x = ⟨x.block, x.off, none⟩ := by
      obtain ⟨b, o, sp⟩ := x
      cases sp with
      | none => rfl
      | some s =>
        simp only [Addr.add, if_true, World.cell?] at h0
        split at h0
        · simp at h0
        · cases h0
    refine ⟨x.block, x.off, by rw [hs], ?_, hw _ ?_⟩
    · have := hc i (by omega)
      rw [← this]
      congr 1
      rw [hs]
      by_cases hi0 : i = 0
      · subst hi0; simp [Addr.add]
      · simp [Addr.add, hi0]
    · rw [List.getD_eq_getElem?_getD, List.getElem?_eq_getElem (by omega), Option.getD_some]; exact List.getElem_mem _

theorem IsRow.le {k : IntKind} {w : World} {a : Option Addr} {len cap : Nat} {zs : List Int} (h : IsRow k w a len cap zs) : len ≤ cap ∧ cap ≤ maxLen := by
  rcases h with ⟨_, rfl, rfl, _⟩ | ⟨x, rfl, hl, hm, _⟩
  · exact ⟨Nat.le_refl _, by decide⟩
  · exact ⟨hl, hm⟩

/-- A slice of whole numbers that came in, as one that can be read. -/
theorem IsRow.slG {w : World} {a : Option Addr} {len cap : Nat} {zs : List Int} (h : IsRow .i64 w a len cap zs) : ∃ l : List Int, l.length = len ∧ (∀ x ∈ l, (Lit.int .i64 x).wf = true) ∧ SlG (Value.int .i64) w a cap l := by
  refine ⟨(List.range len).map fun i => zs.getD i 0, by simp, fun x hx => ?_, by simp; exact h.le.1, h.le.2, fun i hi => ?_⟩
  · obtain ⟨i, hi, rfl⟩ := List.mem_map.1 hx
    obtain ⟨_, _, _, _, hw⟩ := h.cellAt i (List.mem_range.1 hi)
    exact hw
  · simp at hi
    obtain ⟨g, off, e, hc, _⟩ := h.cellAt i hi
    exact ⟨g, off, e, by rw [hc]; simp⟩
theorem tmod_bounds (a m : Int) (hm : 0 < m) : -m < a.tmod m ∧ a.tmod m < m := by
  by_cases h : 0 ≤ a
  · rw [Int.tmod_eq_emod_of_nonneg h]
    have := Int.emod_nonneg a (b := m) (by omega)
    have := Int.emod_lt_of_pos a hm
    omega
  · have e : a = -(-a) := by omega
    rw [e, Int.neg_tmod, Int.tmod_eq_emod_of_nonneg (by omega)]
    have := Int.emod_nonneg (-a) (b := m) (by omega)
    have := Int.emod_lt_of_pos (-a) hm
    omega
theorem countCS_any (b : Nat) (v : Value) (l : List (ByteArray × Int)) (t : ByteArray) (w : World) (h : BagS w b 31 #[] v l) (hn : l.length ≤ 1000000)
    (hmono : ∀ i j (hi : i < l.length) (hj : j < l.length), i ≤ j → cmpS l[j].1 t < 0 → cmpS l[i].1 t < 0) (hb : ∀ p ∈ l, 0 ≤ p.2 ∧ p.2 ≤ 1000000) :
    Calls Try.prog 33 #[.pointer (some ⟨b, 0, none⟩), .string t] w (AddWS cmpS w b 31 #[] v l t 0) := by
  have H := Lib.hid (addCS_any b v l t 0 w h hn hmono hb (by decide))
  clear h hmono hb
  go_enter Try.func33, Try.ntmps33
  go_wp2_with fail
  refine H.out.mono ?_
  rintro e w' ⟨v', rfl, h1, h2, h3⟩
  have H1 := Lib.hid h1; have H2 := Lib.hid h2; have H3 := Lib.hid h3
  clear h1 h2 h3
  go_wp2_with fail
  go_ret
  exact ⟨v', rfl, H1.out, H2.out, H3.out⟩
end Go.Proofs.Ytidpfkehmokdfaa
