/- A row of bytes that grows by appends. -/
import Derived.Test.YtlabhbjampkhpaaGreatRefPut
open Go Go.RowKit
namespace Go.Proofs.YtlabhbjampkhpaaGreat

structure AccI (w1 wr : World) (v : Value) (l : List UInt8) : Prop where
  own : OwnB wr v l
  keep : Keep NoF w1 wr
  new : ∀ j, v.ownBlock = some j → w1.heap.size ≤ j
theorem AccI.still {w1 wr wc : World} {v : Value} {l : List UInt8} (h : AccI w1 wr v l) (hk : Keep NoF wr wc) : AccI w1 wc v l :=
  ⟨h.own.keep hk (fun _ _ f => f), h.keep.trans' hk, h.new⟩
theorem AccI.of_call {w1 wr wc : World} {v : Value} {l : List UInt8} (hk1 : Keep NoF w1 wr) (ho : OwnB wc v l) (hk : Keep NoF wr wc) (hf : ∀ k, v.ownBlock = some k → wr.heap.size ≤ k) : AccI w1 wc v l :=
  ⟨ho, hk1.trans' hk, fun j hj => Nat.le_trans hk1.size (hf j hj)⟩
theorem AccI.row {w1 wr : World} {v : Value} {l : List UInt8} {n : Nat} (h : AccI w1 wr v l) (hn : l.length = n) : wr.ownsRow 0 5 1 v n (bvs l) := by
  subst hn
  exact h.own
theorem AccI.app {w1 wc w9 : World} {v v9 : Value} {l l2 : List UInt8} {n m : Nat} {news : List Value} (h : AccI w1 wc v l)
    (hown : w9.ownsRow 0 5 1 v9 (n + m) (bvs l ++ news)) (hn : n = l.length) (hm : m = l2.length) (hx : news = bvs l2) (hgr : wc.grownBy w9 v.ownBlock) (hfr : v9.ownBlock = v.ownBlock ∨ v9.ownBlock = some wc.heap.size) :
    AccI w1 w9 v9 (l ++ l2) := by
  subst hn hm hx
  refine ⟨?_, h.keep.grown hgr (fun k hk e => by have := h.new k e; omega), fun j hj => ?_⟩
  · rw [OwnB, List.length_append, bvs_append]; exact hown
  · rcases hfr with f | f
    · exact h.new j (by rw [← f]; exact hj)
    · rw [f] at hj
      injection hj with hj
      have := h.keep.size
      omega
theorem AccI.final {w w1 wr : World} {v : Value} {l : List UInt8} (h : AccI w1 wr v l) (hk : Keep NoF w w1) : OwnB wr v l ∧ Keep NoF w wr ∧ ∀ j, v.ownBlock = some j → w.heap.size ≤ j :=
  ⟨h.own, hk.trans' h.keep, fun j hj => Nat.le_trans hk.size (h.new j hj)⟩
/-- What a call hands back, ready to be appended. -/
theorem own_src {P : Program} {w : World} {v : Value} {l : List UInt8} (h : OwnB w v l) {t e : TypeId} (ht : P.underlying t = some (.slice e)) : Src P 1 t v l.length (bvs l) w := by
  obtain ⟨ao, cp, rfl, sl, _⟩ := h.slb
  exact src_slb sl ht
theorem own_srcN {P : Program} {w : World} {v : Value} {l : List UInt8} {n : Nat} (h : OwnB w v l) (hn : l.length = n) {t e : TypeId} (ht : P.underlying t = some (.slice e)) : Src P 1 t v n (bvs l) w := by
  subst hn
  exact own_src h ht
end Go.Proofs.YtlabhbjampkhpaaGreat
