/- For the laws: arguments as they come in. -/
import Derived.Test.YtdbgplnjppaimaaGreatBegun
import Derived.OpenShut
open Go Go.RowKit
namespace Go.Proofs.YtdbgplnjppaimaaGreat

/-- A slice of integers that came in. -/
def IsRow (k : IntKind) (w : World) (a : Option Addr) (len cap : Nat) (zs : List Int) : Prop :=
  (a = none ∧ len = 0 ∧ cap = 0 ∧ zs = []) ∨
  ∃ x, a = some x ∧ len ≤ cap ∧ cap ≤ maxLen ∧ zs.length = cap ∧ (∀ i, i < zs.length → w.cell? (x.add i) = some (.int k (zs.getD i 0))) ∧ ∀ n ∈ zs, (Lit.int k n).wf = true

theorem u8_of {x : Int} (h : 0 ≤ x ∧ x ≤ 255) : ∃ b : UInt8, x = (b.toNat : Int) :=
  ⟨UInt8.ofNat x.toNat, by simp [UInt8.toNat_ofNat']; omega⟩

/-- An integer's row, each cell at its own offset. -/
theorem IsRow.cellAt {k : IntKind} {w : World} {a : Option Addr} {len cap : Nat} {zs : List Int} (h : IsRow k w a len cap zs) (i : Nat) (hi : i < len) :
    ∃ g off, a = some ⟨g, off, none⟩ ∧ w.cell? ⟨g, off + i, none⟩ = some (.int k (zs.getD i 0)) ∧ (Lit.int k (zs.getD i 0)).wf = true := by
  rcases h with ⟨_, h0, _⟩ | ⟨x, rfl, hl, hm, hz, hc, hw⟩
  · omega
  · have h0 := hc 0 (by omega)
    have hs : x = ⟨x.block, x.off, none⟩ := by
      obtain ⟨b, o, sp⟩ := x
      cases sp with
      | none => rfl
      | some s =>
        simp only [Addr.add, if_true, World.cell?] at h0
        split at h0
        · simp at h0
        · cases h0
    refine ⟨x.block, x.off, by rw [hs], ?_, hw _ ?_⟩
    · have := hc i (by omega)
      rw [← this]
      congr 1
      rw [hs]
      by_cases hi0 : i = 0
      · subst hi0; simp [Addr.add]
      · simp [Addr.add, hi0]
    · rw [List.getD_eq_getElem?_getD, List.getElem?_eq_getElem (by omega), Option.getD_some]; exact List.getElem_mem _

theorem IsRow.le {k : IntKind} {w : World} {a : Option Addr} {len cap : Nat} {zs : List Int} (h : IsRow k w a len cap zs) : len ≤ cap ∧ cap ≤ maxLen := by
  rcases h with ⟨_, rfl, rfl, _⟩ | ⟨x, rfl, hl, hm, _⟩
  · exact ⟨Nat.le_refl _, by decide⟩
  · exact ⟨hl, hm⟩

/-- A slice of bytes that came in, as a slice that can be read. -/
theorem IsRow.slb {w : World} {a : Option Addr} {len cap : Nat} {zs : List Int} (h : IsRow .u8 w a len cap zs) :
    ∃ l : List UInt8, l.length = len ∧ SlB w a cap l := by
  refine ⟨(List.range len).map fun i => UInt8.ofNat (zs.getD i 0).toNat, by simp, ?_, h.le.2, fun i hi => ?_⟩
  · simp; exact h.le.1
  · simp at hi
    obtain ⟨g, off, ha, hc, hw⟩ := h.cellAt i hi
    refine ⟨g, off, ha, ?_⟩
    rw [hc]
    have hb := bounds_u8 hw
    simp [bval, UInt8.toNat_ofNat']
    have : (zs.getD i 0).toNat % 256 = (zs.getD i 0).toNat := by omega
    simp [List.getD_eq_getElem?_getD] at hb this
    omega

/-- Where a reading slice lies, there is memory. -/
theorem SlB.lt {w : World} {ao : Option Addr} {cp : Nat} {l : List UInt8} (h : SlB w ao cp l) (hl : 0 < l.length) : ∀ g, blockOf ao = some g → g < w.heap.size := by
  obtain ⟨g', off, rfl, hc⟩ := h.2.2 0 hl
  intro g hg
  have e : g' = g := by simpa [blockOf] using hg
  subst e
  exact World.block_lt_of_cell? w _ hc
end Go.Proofs.YtdbgplnjppaimaaGreat
