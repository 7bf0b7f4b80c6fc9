/- For the laws: arguments as they come in. -/
import Derived.Test.YtlbpmhpcoihlnaaBegun18
import Derived.Deep.Slices
import Derived.Deep.Strs
import Derived.WideShapes
import Derived.OpenShut
open Go Go.RowKit
namespace Go.Proofs.Ytlbpmhpcoihlnaa

/-- A slice of integers that came in. -/
def IsRow (k : IntKind) (w : World) (a : Option Addr) (len cap : Nat) (zs : List Int) : Prop :=
  (a = none ∧ len = 0 ∧ cap = 0 ∧ zs = []) ∨
  ∃ x, a = some x ∧ len ≤ cap ∧ cap ≤ maxLen ∧ zs.length = cap ∧ (∀ i, i < zs.length → w.cell? (x.add i) = some (.int k (zs.getD i 0))) ∧ ∀ n ∈ zs, (Lit.int k n).wf = true

theorem u8_of {x : Int} (h : 0 ≤ x ∧ x ≤ 255) : ∃ b : UInt8, x = (b.toNat : Int) :=
  ⟨UInt8.ofNat x.toNat, by simp [UInt8.toNat_ofNat']; omega⟩

/-- An integer's row, each cell at its own offset. -/
theorem IsRow.cellAt {k : IntKind} {w : World} {a : Option Addr} {len cap : Nat} {zs : List Int} (h : IsRow k w a len cap zs) (i : Nat) (hi : i < len) :
    ∃ g off, a = some ⟨g, off, none⟩ ∧ w.cell? ⟨g, off + i, none⟩ = some (.int k (zs.getD i 0)) ∧ (Lit.int k (zs.getD i 0)).wf = true := by
  rcases h with ⟨_, h0, _⟩ | ⟨x, rfl, hl, hm, hz, hc, hw⟩
  · omega
  · have h0 := hc 0 (by omega)
    have hs : x = ⟨x.block, x.off, none⟩ := by
      obtain ⟨b, o, sp⟩ := x
      cases sp with
      | none => rfl
      | some s =>
        simp only [Addr.add, if_true, World.cell?] at h0
        split at h0
        · simp at h0
        · cases h0
    refine ⟨x.block, x.off, by rw [hs], ?_, hw _ ?_⟩
    · have := hc i (by omega)
      rw [← this]
      congr 1
      rw [hs]
      by_cases hi0 : i = 0
      · subst hi0; simp [Addr.add]
      · simp [Addr.add, hi0]
    · rw [List.getD_eq_getElem?_getD, List.getElem?_eq_getElem (by omega), Option.getD_some]; exact List.getElem_mem _

theorem IsRow.le {k : IntKind} {w : World} {a : Option Addr} {len cap : Nat} {zs : List Int} (h : IsRow k w a len cap zs) : len ≤ cap ∧ cap ≤ maxLen := by
  rcases h with ⟨_, rfl, rfl, _⟩ | ⟨x, rfl, hl, hm, _⟩
  · exact ⟨Nat.le_refl _, by decide⟩
  · exact ⟨hl, hm⟩

/-- A slice of bytes that came in, as a slice that can be read. -/
theorem IsRow.sli {w : World} {a : Option Addr} {len cap : Nat} {zs : List Int} (h : IsRow .i64 w a len cap zs) : ∃ l : List Int, l.length = len ∧ SlI w a cap l := by
  refine ⟨(List.range len).map fun i => zs.getD i 0, by simp, by simp; exact h.le.1, h.le.2, fun x hx => ?_, fun i hi => ?_⟩
  · obtain ⟨i, hi, rfl⟩ := List.mem_map.1 hx
    obtain ⟨_, _, _, _, hw⟩ := h.cellAt i (List.mem_range.1 hi)
    exact hw
  · simp at hi
    obtain ⟨g, off, e, hc, _⟩ := h.cellAt i hi
    exact ⟨g, off, e, by rw [hc]; simp⟩
theorem SlI.take {w : World} {a : Option Addr} {cp : Nat} {l : List Int} (h : SlI w a cp l) (n : Nat) : SlI w a cp (l.take n) := by
  refine ⟨Nat.le_trans (by simp; omega) h.1, h.2.1, fun x hx => h.2.2.1 x (List.mem_of_mem_take hx), fun i hi => ?_⟩
  have hi' : i < l.length := by simp at hi; omega
  obtain ⟨g, off, e, hc⟩ := h.2.2.2 i hi'
  exact ⟨g, off, e, by rw [hc]; simp⟩
/-- Slices of truths that can be read. -/
def SlBo (w : World) (ao : Option Addr) (cp : Nat) (l : List Bool) : Prop :=
  l.length ≤ cp ∧ cp ≤ maxLen ∧ ∀ i (h : i < l.length), ∃ g off, ao = some ⟨g, off, none⟩ ∧ w.cell? ⟨g, off + i, none⟩ = some (.bool l[i])
theorem SlBo.keep {F : Nat → Prop} {w w' : World} {ao : Option Addr} {cp : Nat} {l : List Bool} (h : SlBo w ao cp l) (hk : Keep F w w') (hn : ∀ a, ao = some a → ¬ F a.block) : SlBo w' ao cp l := by
  refine ⟨h.1, h.2.1, fun i hi => ?_⟩
  obtain ⟨g, off, rfl, hc⟩ := h.2.2 i hi
  exact ⟨g, off, rfl, hk.cell' hc (hn ⟨g, off, none⟩ rfl)⟩
theorem plain_addr {w : World} {x : Addr} {v : Value} (h : w.cell? (x.add 0) = some v) : x = ⟨x.block, x.off, none⟩ := by
  obtain ⟨b, o, sp⟩ := x
  cases sp with
  | none => rfl
  | some s =>
    simp only [Addr.add, if_true, World.cell?] at h
    split at h
    · simp at h
    · cases h
theorem addr_plain {x : Addr} (hx : x = ⟨x.block, x.off, none⟩) (i : Nat) : x.add i = ⟨x.block, x.off + i, none⟩ := by
  rw [hx]
  by_cases hi0 : i = 0
  · subst hi0; simp [Addr.add]
  · simp [Addr.add, hi0]
theorem open_bools {H : Type} {enc : TypeId × Value → H} {W : World} {a : Option Addr} {len cap : Nat} {d : DataW H} {p : List MemPlace}
    (h : DataW.Trod enc Try.prog W 0 (fun _ => true) true 34 (.slice a len cap) d p) : ∃ l : List Bool, l.length = len ∧ SlBo W a cap l := by
  obtain ⟨n, h⟩ := h
  rcases Deep.open_slice1 Try.underlying34 (by kernel_rfl) h with ⟨hcs, _⟩ | ⟨x, l', c', m, k, V, D, Pl, hcs, _, hl, hm, hmm, _, hx⟩
  · simp [Value.cells] at hcs
    obtain ⟨rfl, rfl, rfl⟩ := hcs
    exact ⟨[], rfl, Nat.le_refl _, by decide, by simp⟩
  · simp [Value.cells] at hcs
    obtain ⟨rfl, rfl, rfl⟩ := hcs
    simp only [if_true] at hmm
    subst hmm
    obtain ⟨z, hz⟩ := Deep.choose_lt (α := Bool) (n := len) (p := fun i y => W.cell? (x.add i) = some (.bool y)) (fun i hi => by
      obtain ⟨h1, h2⟩ := hx i (by omega)
      obtain ⟨n0, e0, _⟩ := DataW.trod_bool Try.underlying4 h2
      simp at e0
      rw [e0] at h1
      exact ⟨n0, h1⟩)
    refine ⟨(List.range len).map z, by simp, by simp; exact hl, hm, fun i hi => ?_⟩
    simp at hi
    have hpl := plain_addr (hz 0 (by omega))
    refine ⟨x.block, x.off, by rw [hpl], ?_⟩
    rw [← addr_plain hpl, hz i hi]
    simp
end Go.Proofs.Ytlbpmhpcoihlnaa
