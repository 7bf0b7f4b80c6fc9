/- The laws' own helpers over bytes: Cut, Short; an owned row of bytes. -/
import Derived.Test.YtdbgplnjppaimaaGreatChecked
import Derived.Test.YtdbgplnjppaimaaGreatLawBase
open Go Go.RowKit
namespace Go.Proofs.YtdbgplnjppaimaaGreat

/-- A row of bytes that is the call's own. -/
def OwnB (w : World) (v : Value) (l : List UInt8) : Prop := w.ownsRow 0 5 1 v l.length (bvs l)

theorem OwnB.slb {w : World} {v : Value} {l : List UInt8} (hown : OwnB w v l) : ∃ ao cp, v = .slice ao l.length cp ∧ SlB w ao cp l ∧ blockOf ao = v.ownBlock := by
  rcases hown.2 with ⟨rfl, h0⟩ | ⟨g, cap, cur, rfl, _, hg, hnc, hcm, hcs, htake⟩
  · have hl : l = [] := List.eq_nil_of_length_eq_zero h0
    subst hl
    exact ⟨none, 0, rfl, ⟨by simp, by simp, by simp⟩, rfl⟩
  · refine ⟨some ⟨g, 0, none⟩, cap, rfl, ⟨hnc, hcm, fun i hi => ⟨g, 0, rfl, ?_⟩⟩, rfl⟩
    rw [cell_of_heap hg, Nat.zero_add]
    have h1 : (cur.toList.take (l.length * 1))[i]? = (bvs l)[i]? := by rw [htake]
    rw [List.getElem?_take_of_lt (by omega)] at h1
    rw [← Array.getElem?_toList, h1]
    simp [bvs, List.getElem?_eq_getElem hi]

theorem OwnB.nil (w : World) : OwnB w (.slice none 0 0) [] := World.ownsRow_nil _ _ _ _

theorem OwnB.keep {F : Nat → Prop} {w w' : World} {v : Value} {l : List UInt8} (h : OwnB w v l) (hk : Keep F w w') (hn : ∀ k, v.ownBlock = some k → ¬ F k) : OwnB w' v l := by
  refine ⟨h.1, ?_⟩
  rcases h.2 with h0 | ⟨g, cap, cur, rfl, hb, hg, rest⟩
  · exact .inl h0
  · refine .inr ⟨g, cap, cur, rfl, hb, ?_, rest⟩
    rw [hk.block g (lt_of_heap hg) (hn g rfl)]; exact hg

theorem OwnB.lt {w : World} {v : Value} {l : List UInt8} (h : OwnB w v l) : ∀ k, v.ownBlock = some k → k < w.heap.size := fun k hk => (World.ownsRow.lt h k hk).2

theorem src_slb {P : Program} {w : World} {ao : Option Addr} {cp : Nat} {l : List UInt8} (h : SlB w ao cp l) {t e : TypeId} (ht : P.underlying t = some (.slice e)) :
    Src P 1 t (.slice ao l.length cp) l.length (bvs l) w := by
  cases ao with
  | none =>
    have h0 : l = [] := by
      cases l with
      | nil => rfl
      | cons x l => obtain ⟨g, off, e, _⟩ := h.2.2 0 (by simp); cases e
    subst h0
    exact Src.ofNil w ht cp
  | some a =>
    refine Src.ofSlice w ht a _ _ _ (by simp [bvs_length]) ?_ (by intro u hu; obtain ⟨x, _, rfl⟩ := List.mem_map.1 hu; rfl)
    intro j v hv
    simp only [bvs, List.getElem?_map] at hv
    have hj : j < l.length := by
      rcases Nat.lt_or_ge j l.length with h | h
      · exact h
      · rw [List.getElem?_eq_none h] at hv; cases hv
    obtain ⟨g, off, e, hc⟩ := h.2.2 j hj
    have e' : a = ⟨g, off, none⟩ := by injection e
    subst e'
    rw [List.getElem?_eq_getElem hj] at hv
    simp at hv
    subst hv
    rw [← hc]
    congr 1
    simp [Addr.add]

end Go.Proofs.YtdbgplnjppaimaaGreat
