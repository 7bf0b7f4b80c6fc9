/- KindPackets: the law returns true and changes nothing that was there. No conditions. -/
import Derived.Test.YtgbogbjifpijkaaArgs8
import Derived.Test.YtgbogbjifpijkaaRows
import Derived.WalkKit
import Derived.ProofKit
import Derived.OpenShut
import Derived.ShutString
import Derived.ChangeOld
import Derived.Below
namespace Go.Proofs.Ytgbogbjifpijkaa.kindPackets
open Go Go.ChangeShapes Go.WideShapes Go.ChangeAt Go.RowKit
open Go.ChangeMaps (open_string shut_string)

theorem own : ownKnob Try.prog.godebug = none := by kernel_rfl
theorem laidOut : laidOutB Try.prog = true := by kernel_rfl

theorem open_arg0 {H : Type} {enc : TypeId × Value → H} {r : Reach} {b0 : Nat} {v : Value} {d : DataW H} {p : List MemPlace} (W : World) (_base : Nat)
    (hv : Value.okWide Try.prog W r b0 40 v) (h : DataW.Trod enc Try.prog W 0 (fun _ => true) true 40 v d p) : ∃ z : PackV, v = packVal z ∧ z.Ok := open_packet hv h

theorem tmod_bounds (a m : Int) (hm : 0 < m) : -m < a.tmod m ∧ a.tmod m < m := by
  by_cases h : 0 ≤ a
  · rw [Int.tmod_eq_emod_of_nonneg h]
    have := Int.emod_nonneg a (b := m) (by omega)
    have := Int.emod_lt_of_pos a hm
    omega
  · have e : a = -(-a) := by omega
    rw [e, Int.neg_tmod, Int.tmod_eq_emod_of_nonneg (by omega)]
    have := Int.emod_nonneg (-a) (b := m) (by omega)
    have := Int.emod_lt_of_pos (-a) hm
    omega
theorem tmod_pos (a m : Int) (ha : 0 ≤ a) (hm : 0 < m) : 0 ≤ a.tmod m ∧ a.tmod m < m := by
  rw [Int.tmod_eq_emod_of_nonneg ha]
  exact ⟨Int.emod_nonneg a (by omega), Int.emod_lt_of_pos a hm⟩

def packCells (p : PackV) : Array Value := #[.int .i64 p.kind, .int .i64 p.from_, .int .i64 p.to, .int .i64 p.tid, .int .i64 p.n, .bool p.yes]

set_option maxHeartbeats 8000000 in
theorem walk (w : World) (p : PackV) (hp : p.Ok) (which : Int) (hw : (Lit.int .i64 which).wf = true) (x : Int) (hx : (Lit.int .i64 x).wf = true) :
    Calls Try.prog 12 #[packVal p, .int .i64 which, .int .i64 x] w fun e w' => e = .returned (.bool true) ∧ Keep NoF w w' := by
  have bx := bounds_i64 hx
  have HX : Hid (In64 x) := bx
  have bw := bounds_i64 hw
  have HOK := Lib.hid hp
  obtain ⟨k, f, t, d, n, y⟩ := p
  unfold packVal
  simp only
  obtain ⟨r, hr⟩ : ∃ r, which.tmod 6 = r := ⟨_, rfl⟩
  have hrb := tmod_bounds which 6 (by omega)
  rw [hr] at hrb
  obtain ⟨q, hq⟩ : ∃ q, (r + 6).tmod 6 = q := ⟨_, rfl⟩
  have hqb := tmod_pos (r + 6) 6 (by omega) (by omega)
  rw [hq] at hqb
  clear hx hw hp
  go_enter Try.func12, Try.ntmps12
  go_wp2_with fail
  refine (begun8_any _).mono ?_
  rintro e w1 ⟨rfl, hk⟩
  have K1 : Hid (Keep NoF w w1) := Lib.hid ((keep_alloc _ _).trans' hk)
  have hrow : w1.heap[w.heap.size]? = some (.cells #[.int .i64 k, .int .i64 f, .int .i64 t, .int .i64 d, .int .i64 n, .bool y] 40 (0, 0)) := by
    have h1 := heap_new w (.cells #[.int .i64 k, .int .i64 f, .int .i64 t, .int .i64 d, .int .i64 n, .bool y] 40 (0, 0))
    rw [hk.block _ (lt_of_heap h1) (fun f => f)]; exact h1
  have HB : Hid (w.heap.size ≤ w.heap.size) := Nat.le_refl _
  obtain ⟨B, hB⟩ : ∃ B, w.heap.size = B := ⟨_, rfl⟩
  have HB : Hid (w.heap.size ≤ B) := by rw [hB]; exact Lib.hid (Nat.le_refl _)
  rw [hB] at hrow ⊢
  have HROW := Lib.hid hrow
  have c0 := cell_of_heap hrow 0
  have c1 := cell_of_heap hrow 1
  have c2 := cell_of_heap hrow 2
  have c3 := cell_of_heap hrow 3
  have c4 := cell_of_heap hrow 4
  have c5 := cell_of_heap hrow 5
  simp at c0 c1 c2 c3 c4 c5
  clear hk hrow hB
  have hq6 : q = 0 ∨ q = 1 ∨ q = 2 ∨ q = 3 ∨ q = 4 ∨ q = 5 := by omega
  rcases hq6 with rfl | rfl | rfl | rfl | rfl | rfl
  · have hW0 : (w1.setCell ⟨B, 0, none⟩ (.int .i64 x)).heap[B]? = some (.cells (packCells ⟨x, f, t, d, n, y⟩) 40 (0, 0)) := set1 HROW.out (.int .i64 x)
    have hK0 : Keep NoF w (w1.setCell ⟨B, 0, none⟩ (.int .i64 x)) := K1.out.setCell (p := ⟨B, 0, none⟩) (fun h => by have := HB.out; simp only at h; omega) _
    have hfz := free_of_heap HROW.out 0
    go_wp2_with fail
    show Code.wp _ _ _ _ (w1.setCell ⟨B, 0, none⟩ (.int .i64 x))
    generalize w1.setCell ⟨B, 0, none⟩ (.int .i64 x) = W0 at hW0 hK0 ⊢
    have HC : Hid (∀ W, Keep NoF W0 W → W.cell? ⟨B, 0, none⟩ = some (.int .i64 x) ∧ W.cell? ⟨B, 1, none⟩ = some (.int .i64 f) ∧ W.cell? ⟨B, 2, none⟩ = some (.int .i64 t) ∧ W.cell? ⟨B, 3, none⟩ = some (.int .i64 d) ∧ W.cell? ⟨B, 4, none⟩ = some (.int .i64 n) ∧ W.cell? ⟨B, 5, none⟩ = some (.bool y)) := by
      intro W hW
      have h2 : W.heap[B]? = some (.cells (packCells ⟨x, f, t, d, n, y⟩) 40 (0, 0)) := by rw [hW.block B (lt_of_heap hW0) (fun f => f)]; exact hW0
      refine ⟨?_, ?_, ?_, ?_, ?_, ?_⟩
      all_goals (rw [cell_of_heap h2]; rfl)
    have HK0 := Lib.hid hK0
    obtain ⟨vp, hvp⟩ : ∃ v, packB ⟨x, f, t, d, n, y⟩ = v := ⟨_, rfl⟩
    have hk1 := fun W => kpacket_any ⟨x, f, t, d, n, y⟩ W ⟨HX.out, HOK.out.2.1, HOK.out.2.2.1, HOK.out.2.2.2.1, HOK.out.2.2.2.2⟩
    have hk2 := fun W => rpacket_any ⟨x, f, t, d, n, y⟩ W ⟨HX.out, HOK.out.2.1, HOK.out.2.2.1, HOK.out.2.2.2.1, HOK.out.2.2.2.2⟩
    rw [hvp] at hk1 hk2
    unfold packVal at hk1 hk2
    simp only at hk1 hk2
    have HK1 := Lib.hid hk1; have HK2 := Lib.hid hk2
    obtain ⟨d0, d1, d2, d3, d4, d5⟩ := HC.out W0.drew (Keep.refl NoF W0).drew
    clear hW0 hK0 hvp hk1 hk2 c0 c1 c2 c3 c4 c5 hfz
    go_region_law (first
      | (go_simp; go_at_call 34; refine (HK2.out _).mono ?_; rintro e wb ⟨rfl, hkb⟩; have KB := Lib.hid (KA.out.trans' hkb); obtain ⟨g0, g1, g2, g3, g4, g5⟩ := HC.out wb KB.out; clear hkb)
      | (go_simp; go_at_call 33; refine (HK1.out _).mono ?_; rintro e wa ⟨rfl, hka⟩; have KA : Hid (Keep NoF W0 wa) := Lib.hid (hka.of_drew); obtain ⟨e0, e1, e2, e3, e4, e5⟩ := HC.out wa KA.out; clear hka))
    all_goals
      go_wp2_with fail
      go_ret
      exact ⟨rfl, HK0.out.trans' KB.out⟩
  · have hW0 : (w1.setCell ⟨B, 1, none⟩ (.int .i64 x)).heap[B]? = some (.cells (packCells ⟨k, x, t, d, n, y⟩) 40 (0, 0)) := set1 HROW.out (.int .i64 x)
    have hK0 : Keep NoF w (w1.setCell ⟨B, 1, none⟩ (.int .i64 x)) := K1.out.setCell (p := ⟨B, 1, none⟩) (fun h => by have := HB.out; simp only at h; omega) _
    have hfz := free_of_heap HROW.out 1
    go_wp2_with fail
    show Code.wp _ _ _ _ (w1.setCell ⟨B, 1, none⟩ (.int .i64 x))
    generalize w1.setCell ⟨B, 1, none⟩ (.int .i64 x) = W0 at hW0 hK0 ⊢
    have HC : Hid (∀ W, Keep NoF W0 W → W.cell? ⟨B, 0, none⟩ = some (.int .i64 k) ∧ W.cell? ⟨B, 1, none⟩ = some (.int .i64 x) ∧ W.cell? ⟨B, 2, none⟩ = some (.int .i64 t) ∧ W.cell? ⟨B, 3, none⟩ = some (.int .i64 d) ∧ W.cell? ⟨B, 4, none⟩ = some (.int .i64 n) ∧ W.cell? ⟨B, 5, none⟩ = some (.bool y)) := by
      intro W hW
      have h2 : W.heap[B]? = some (.cells (packCells ⟨k, x, t, d, n, y⟩) 40 (0, 0)) := by rw [hW.block B (lt_of_heap hW0) (fun f => f)]; exact hW0
      refine ⟨?_, ?_, ?_, ?_, ?_, ?_⟩
      all_goals (rw [cell_of_heap h2]; rfl)
    have HK0 := Lib.hid hK0
    obtain ⟨vp, hvp⟩ : ∃ v, packB ⟨k, x, t, d, n, y⟩ = v := ⟨_, rfl⟩
    have hk1 := fun W => kpacket_any ⟨k, x, t, d, n, y⟩ W ⟨HOK.out.1, HX.out, HOK.out.2.2.1, HOK.out.2.2.2.1, HOK.out.2.2.2.2⟩
    have hk2 := fun W => rpacket_any ⟨k, x, t, d, n, y⟩ W ⟨HOK.out.1, HX.out, HOK.out.2.2.1, HOK.out.2.2.2.1, HOK.out.2.2.2.2⟩
    rw [hvp] at hk1 hk2
    unfold packVal at hk1 hk2
    simp only at hk1 hk2
    have HK1 := Lib.hid hk1; have HK2 := Lib.hid hk2
    obtain ⟨d0, d1, d2, d3, d4, d5⟩ := HC.out W0.drew (Keep.refl NoF W0).drew
    clear hW0 hK0 hvp hk1 hk2 c0 c1 c2 c3 c4 c5 hfz
    go_region_law (first
      | (go_simp; go_at_call 34; refine (HK2.out _).mono ?_; rintro e wb ⟨rfl, hkb⟩; have KB := Lib.hid (KA.out.trans' hkb); obtain ⟨g0, g1, g2, g3, g4, g5⟩ := HC.out wb KB.out; clear hkb)
      | (go_simp; go_at_call 33; refine (HK1.out _).mono ?_; rintro e wa ⟨rfl, hka⟩; have KA : Hid (Keep NoF W0 wa) := Lib.hid (hka.of_drew); obtain ⟨e0, e1, e2, e3, e4, e5⟩ := HC.out wa KA.out; clear hka))
    all_goals
      go_wp2_with fail
      go_ret
      exact ⟨rfl, HK0.out.trans' KB.out⟩
  · have hW0 : (w1.setCell ⟨B, 2, none⟩ (.int .i64 x)).heap[B]? = some (.cells (packCells ⟨k, f, x, d, n, y⟩) 40 (0, 0)) := set1 HROW.out (.int .i64 x)
    have hK0 : Keep NoF w (w1.setCell ⟨B, 2, none⟩ (.int .i64 x)) := K1.out.setCell (p := ⟨B, 2, none⟩) (fun h => by have := HB.out; simp only at h; omega) _
    have hfz := free_of_heap HROW.out 2
    go_wp2_with fail
    show Code.wp _ _ _ _ (w1.setCell ⟨B, 2, none⟩ (.int .i64 x))
    generalize w1.setCell ⟨B, 2, none⟩ (.int .i64 x) = W0 at hW0 hK0 ⊢
    have HC : Hid (∀ W, Keep NoF W0 W → W.cell? ⟨B, 0, none⟩ = some (.int .i64 k) ∧ W.cell? ⟨B, 1, none⟩ = some (.int .i64 f) ∧ W.cell? ⟨B, 2, none⟩ = some (.int .i64 x) ∧ W.cell? ⟨B, 3, none⟩ = some (.int .i64 d) ∧ W.cell? ⟨B, 4, none⟩ = some (.int .i64 n) ∧ W.cell? ⟨B, 5, none⟩ = some (.bool y)) := by
      intro W hW
      have h2 : W.heap[B]? = some (.cells (packCells ⟨k, f, x, d, n, y⟩) 40 (0, 0)) := by rw [hW.block B (lt_of_heap hW0) (fun f => f)]; exact hW0
      refine ⟨?_, ?_, ?_, ?_, ?_, ?_⟩
      all_goals (rw [cell_of_heap h2]; rfl)
    have HK0 := Lib.hid hK0
    obtain ⟨vp, hvp⟩ : ∃ v, packB ⟨k, f, x, d, n, y⟩ = v := ⟨_, rfl⟩
    have hk1 := fun W => kpacket_any ⟨k, f, x, d, n, y⟩ W ⟨HOK.out.1, HOK.out.2.1, HX.out, HOK.out.2.2.2.1, HOK.out.2.2.2.2⟩
    have hk2 := fun W => rpacket_any ⟨k, f, x, d, n, y⟩ W ⟨HOK.out.1, HOK.out.2.1, HX.out, HOK.out.2.2.2.1, HOK.out.2.2.2.2⟩
    rw [hvp] at hk1 hk2
    unfold packVal at hk1 hk2
    simp only at hk1 hk2
    have HK1 := Lib.hid hk1; have HK2 := Lib.hid hk2
    obtain ⟨d0, d1, d2, d3, d4, d5⟩ := HC.out W0.drew (Keep.refl NoF W0).drew
    clear hW0 hK0 hvp hk1 hk2 c0 c1 c2 c3 c4 c5 hfz
    go_region_law (first
      | (go_simp; go_at_call 34; refine (HK2.out _).mono ?_; rintro e wb ⟨rfl, hkb⟩; have KB := Lib.hid (KA.out.trans' hkb); obtain ⟨g0, g1, g2, g3, g4, g5⟩ := HC.out wb KB.out; clear hkb)
      | (go_simp; go_at_call 33; refine (HK1.out _).mono ?_; rintro e wa ⟨rfl, hka⟩; have KA : Hid (Keep NoF W0 wa) := Lib.hid (hka.of_drew); obtain ⟨e0, e1, e2, e3, e4, e5⟩ := HC.out wa KA.out; clear hka))
    all_goals
      go_wp2_with fail
      go_ret
      exact ⟨rfl, HK0.out.trans' KB.out⟩
  · have hW0 : (w1.setCell ⟨B, 3, none⟩ (.int .i64 x)).heap[B]? = some (.cells (packCells ⟨k, f, t, x, n, y⟩) 40 (0, 0)) := set1 HROW.out (.int .i64 x)
    have hK0 : Keep NoF w (w1.setCell ⟨B, 3, none⟩ (.int .i64 x)) := K1.out.setCell (p := ⟨B, 3, none⟩) (fun h => by have := HB.out; simp only at h; omega) _
    have hfz := free_of_heap HROW.out 3
    go_wp2_with fail
    show Code.wp _ _ _ _ (w1.setCell ⟨B, 3, none⟩ (.int .i64 x))
    generalize w1.setCell ⟨B, 3, none⟩ (.int .i64 x) = W0 at hW0 hK0 ⊢
    have HC : Hid (∀ W, Keep NoF W0 W → W.cell? ⟨B, 0, none⟩ = some (.int .i64 k) ∧ W.cell? ⟨B, 1, none⟩ = some (.int .i64 f) ∧ W.cell? ⟨B, 2, none⟩ = some (.int .i64 t) ∧ W.cell? ⟨B, 3, none⟩ = some (.int .i64 x) ∧ W.cell? ⟨B, 4, none⟩ = some (.int .i64 n) ∧ W.cell? ⟨B, 5, none⟩ = some (.bool y)) := by
      intro W hW
      have h2 : W.heap[B]? = some (.cells (packCells ⟨k, f, t, x, n, y⟩) 40 (0, 0)) := by rw [hW.block B (lt_of_heap hW0) (fun f => f)]; exact hW0
      refine ⟨?_, ?_, ?_, ?_, ?_, ?_⟩
      all_goals (rw [cell_of_heap h2]; rfl)
    have HK0 := Lib.hid hK0
    obtain ⟨vp, hvp⟩ : ∃ v, packB ⟨k, f, t, x, n, y⟩ = v := ⟨_, rfl⟩
    have hk1 := fun W => kpacket_any ⟨k, f, t, x, n, y⟩ W ⟨HOK.out.1, HOK.out.2.1, HOK.out.2.2.1, HX.out, HOK.out.2.2.2.2⟩
    have hk2 := fun W => rpacket_any ⟨k, f, t, x, n, y⟩ W ⟨HOK.out.1, HOK.out.2.1, HOK.out.2.2.1, HX.out, HOK.out.2.2.2.2⟩
    rw [hvp] at hk1 hk2
    unfold packVal at hk1 hk2
    simp only at hk1 hk2
    have HK1 := Lib.hid hk1; have HK2 := Lib.hid hk2
    obtain ⟨d0, d1, d2, d3, d4, d5⟩ := HC.out W0.drew (Keep.refl NoF W0).drew
    clear hW0 hK0 hvp hk1 hk2 c0 c1 c2 c3 c4 c5 hfz
    go_region_law (first
      | (go_simp; go_at_call 34; refine (HK2.out _).mono ?_; rintro e wb ⟨rfl, hkb⟩; have KB := Lib.hid (KA.out.trans' hkb); obtain ⟨g0, g1, g2, g3, g4, g5⟩ := HC.out wb KB.out; clear hkb)
      | (go_simp; go_at_call 33; refine (HK1.out _).mono ?_; rintro e wa ⟨rfl, hka⟩; have KA : Hid (Keep NoF W0 wa) := Lib.hid (hka.of_drew); obtain ⟨e0, e1, e2, e3, e4, e5⟩ := HC.out wa KA.out; clear hka))
    all_goals
      go_wp2_with fail
      go_ret
      exact ⟨rfl, HK0.out.trans' KB.out⟩
  · have hW0 : (w1.setCell ⟨B, 4, none⟩ (.int .i64 x)).heap[B]? = some (.cells (packCells ⟨k, f, t, d, x, y⟩) 40 (0, 0)) := set1 HROW.out (.int .i64 x)
    have hK0 : Keep NoF w (w1.setCell ⟨B, 4, none⟩ (.int .i64 x)) := K1.out.setCell (p := ⟨B, 4, none⟩) (fun h => by have := HB.out; simp only at h; omega) _
    have hfz := free_of_heap HROW.out 4
    go_wp2_with fail
    show Code.wp _ _ _ _ (w1.setCell ⟨B, 4, none⟩ (.int .i64 x))
    generalize w1.setCell ⟨B, 4, none⟩ (.int .i64 x) = W0 at hW0 hK0 ⊢
    have HC : Hid (∀ W, Keep NoF W0 W → W.cell? ⟨B, 0, none⟩ = some (.int .i64 k) ∧ W.cell? ⟨B, 1, none⟩ = some (.int .i64 f) ∧ W.cell? ⟨B, 2, none⟩ = some (.int .i64 t) ∧ W.cell? ⟨B, 3, none⟩ = some (.int .i64 d) ∧ W.cell? ⟨B, 4, none⟩ = some (.int .i64 x) ∧ W.cell? ⟨B, 5, none⟩ = some (.bool y)) := by
      intro W hW
      have h2 : W.heap[B]? = some (.cells (packCells ⟨k, f, t, d, x, y⟩) 40 (0, 0)) := by rw [hW.block B (lt_of_heap hW0) (fun f => f)]; exact hW0
      refine ⟨?_, ?_, ?_, ?_, ?_, ?_⟩
      all_goals (rw [cell_of_heap h2]; rfl)
    have HK0 := Lib.hid hK0
    obtain ⟨vp, hvp⟩ : ∃ v, packB ⟨k, f, t, d, x, y⟩ = v := ⟨_, rfl⟩
    have hk1 := fun W => kpacket_any ⟨k, f, t, d, x, y⟩ W ⟨HOK.out.1, HOK.out.2.1, HOK.out.2.2.1, HOK.out.2.2.2.1, HX.out⟩
    have hk2 := fun W => rpacket_any ⟨k, f, t, d, x, y⟩ W ⟨HOK.out.1, HOK.out.2.1, HOK.out.2.2.1, HOK.out.2.2.2.1, HX.out⟩
    rw [hvp] at hk1 hk2
    unfold packVal at hk1 hk2
    simp only at hk1 hk2
    have HK1 := Lib.hid hk1; have HK2 := Lib.hid hk2
    obtain ⟨d0, d1, d2, d3, d4, d5⟩ := HC.out W0.drew (Keep.refl NoF W0).drew
    clear hW0 hK0 hvp hk1 hk2 c0 c1 c2 c3 c4 c5 hfz
    go_region_law (first
      | (go_simp; go_at_call 34; refine (HK2.out _).mono ?_; rintro e wb ⟨rfl, hkb⟩; have KB := Lib.hid (KA.out.trans' hkb); obtain ⟨g0, g1, g2, g3, g4, g5⟩ := HC.out wb KB.out; clear hkb)
      | (go_simp; go_at_call 33; refine (HK1.out _).mono ?_; rintro e wa ⟨rfl, hka⟩; have KA : Hid (Keep NoF W0 wa) := Lib.hid (hka.of_drew); obtain ⟨e0, e1, e2, e3, e4, e5⟩ := HC.out wa KA.out; clear hka))
    all_goals
      go_wp2_with fail
      go_ret
      exact ⟨rfl, HK0.out.trans' KB.out⟩
  · have hW0 : (w1.setCell ⟨B, 5, none⟩ (.bool (!y))).heap[B]? = some (.cells (packCells ⟨k, f, t, d, n, !y⟩) 40 (0, 0)) := set1 HROW.out (.bool (!y))
    have hK0 : Keep NoF w (w1.setCell ⟨B, 5, none⟩ (.bool (!y))) := K1.out.setCell (p := ⟨B, 5, none⟩) (fun h => by have := HB.out; simp only at h; omega) _
    have hfz := free_of_heap HROW.out 5
    go_wp2_with fail
    show Code.wp _ _ _ _ (w1.setCell ⟨B, 5, none⟩ (.bool (!y)))
    generalize w1.setCell ⟨B, 5, none⟩ (.bool (!y)) = W0 at hW0 hK0 ⊢
    have HC : Hid (∀ W, Keep NoF W0 W → W.cell? ⟨B, 0, none⟩ = some (.int .i64 k) ∧ W.cell? ⟨B, 1, none⟩ = some (.int .i64 f) ∧ W.cell? ⟨B, 2, none⟩ = some (.int .i64 t) ∧ W.cell? ⟨B, 3, none⟩ = some (.int .i64 d) ∧ W.cell? ⟨B, 4, none⟩ = some (.int .i64 n) ∧ W.cell? ⟨B, 5, none⟩ = some (.bool (!y))) := by
      intro W hW
      have h2 : W.heap[B]? = some (.cells (packCells ⟨k, f, t, d, n, !y⟩) 40 (0, 0)) := by rw [hW.block B (lt_of_heap hW0) (fun f => f)]; exact hW0
      refine ⟨?_, ?_, ?_, ?_, ?_, ?_⟩
      all_goals (rw [cell_of_heap h2]; rfl)
    have HK0 := Lib.hid hK0
    obtain ⟨vp, hvp⟩ : ∃ v, packB ⟨k, f, t, d, n, !y⟩ = v := ⟨_, rfl⟩
    have hk1 := fun W => kpacket_any ⟨k, f, t, d, n, !y⟩ W ⟨HOK.out.1, HOK.out.2.1, HOK.out.2.2.1, HOK.out.2.2.2.1, HOK.out.2.2.2.2⟩
    have hk2 := fun W => rpacket_any ⟨k, f, t, d, n, !y⟩ W ⟨HOK.out.1, HOK.out.2.1, HOK.out.2.2.1, HOK.out.2.2.2.1, HOK.out.2.2.2.2⟩
    rw [hvp] at hk1 hk2
    unfold packVal at hk1 hk2
    simp only at hk1 hk2
    have HK1 := Lib.hid hk1; have HK2 := Lib.hid hk2
    obtain ⟨d0, d1, d2, d3, d4, d5⟩ := HC.out W0.drew (Keep.refl NoF W0).drew
    clear hW0 hK0 hvp hk1 hk2 c0 c1 c2 c3 c4 c5 hfz
    go_region_law (first
      | (go_simp; go_at_call 34; refine (HK2.out _).mono ?_; rintro e wb ⟨rfl, hkb⟩; have KB := Lib.hid (KA.out.trans' hkb); obtain ⟨g0, g1, g2, g3, g4, g5⟩ := HC.out wb KB.out; clear hkb)
      | (go_simp; go_at_call 33; refine (HK1.out _).mono ?_; rintro e wa ⟨rfl, hka⟩; have KA : Hid (Keep NoF W0 wa) := Lib.hid (hka.of_drew); obtain ⟨e0, e1, e2, e3, e4, e5⟩ := HC.out wa KA.out; clear hka))
    all_goals
      go_wp2_with fail
      go_ret
      exact ⟨rfl, HK0.out.trans' KB.out⟩

set_option linter.unusedVariables false
set_option maxRecDepth 100000 in
theorem lifted (os : Os) (started : os.Started) (H : Type) (enc : TypeId × Value → H) :
    ReturnsInHanded {} Try.checked os 12 .any (Rows.kindPacketsSpec.pre6 enc Try.prog Try.f12 Rows.kindPacketsRow.domain false) (Rows.kindPacketsSpec.post enc Try.prog Try.f12 false true false false) := by
  refine returnsInHanded_of_change (C := Try.checked) own started (by kernel_rfl) Try.func12
    (ChangeSpec.witness6 (enc := enc) (C := Try.checked) false ⟨#[], #[.agg #[.int .i64 0, .int .i64 0, .int .i64 0, .int .i64 0, .int .i64 0, .bool false], .int .i64 0, .int .i64 0], []⟩ 8 (by kernel_rfl) (by kernel_rfl) (by kernel_rfl) (by kernel_rfl)) ?_
  intro W base args ds gs before hval0 hW hcnd _
  have hval : ∀ (j : Nat) t v, Try.f12.params[j]? = some t → args[j]? = some v → Value.okWide Try.prog W .any base t v := hval0
  have hW' := hW
  obtain ⟨p, q, hA0, hV, rfl, hfz, hnd⟩ := hW
  have hA : DataW.TrodAll enc Try.prog W 0 (fun _ => true) true Try.f12.params.toList args.toList ds p := hA0
  rw [Try.params12] at hA hval
  obtain ⟨v0, vs0, d0, ds0, p0, q0, hargs, rfl, rfl, h0, r0⟩ := trodAll_cons hA
  obtain ⟨v1, vs1, d1, ds1, p1, q1, rfl, rfl, rfl, h1, r1⟩ := trodAll_cons r0
  obtain ⟨v2, vs2, d2, ds2, p2, q2, rfl, rfl, rfl, h2, r2⟩ := trodAll_cons r1
  obtain ⟨rfl, rfl, rfl⟩ := trodAll_nil r2
  obtain rfl : args = #[v0, v1, v2] := by cases args; simp_all
  obtain ⟨rfl, rfl⟩ := trodVars_none hV
  have k0 := h0
  have lt0 : ∀ x ∈ p0, x.block < W.heap.size := by obtain ⟨m, hm⟩ := k0; exact DataW.trod_lt m _ _ _ hm
  obtain ⟨z0, rfl, w0⟩ := open_arg0 W base (hval 0 40 v0 rfl rfl) h0
  obtain ⟨a1, rfl, rfl, rfl, w1⟩ := open_int Try.underlying3 (hval 1 3 v1 rfl rfl) h1
  obtain ⟨a2, rfl, rfl, rfl, w2⟩ := open_int Try.underlying2 (hval 2 2 v2 rfl rfl) h2
  clear hA0 hval0
  refine (walk W z0 w0 a1 w1 a2 w2).mono fun e W' ⟨he, hk⟩ => ?_
  subst he
  have bel := Keep.below hk
  exact ⟨_, rfl, _, _, _, [], _, [], hW', trodAll_mk1 (shut_bool Try.underlying4 _), (trodAll_cons_mk (Below.trod laidOut (by kernel_rfl) (of_decide_eq_true (by kernel_rfl)) k0 bel lt0) (trodAll_cons_mk (shut_int Try.underlying3 w1) (trodAll_cons_mk (shut_int Try.underlying2 w2) trodAll_mk0))), rfl, bel.frame _, fun h => by cases h⟩

theorem over : Rows.kindPacketsRow.holds Try.pinned (OpenSpec.ofChange Rows.kindPacketsSpec) :=
  OpenClaim.holds_of_wide 12 Try.f12 rfl rfl rfl rfl rfl rfl rfl ⟨rfl, rfl, rfl, rfl, rfl⟩ rfl rfl rfl rfl rfl (by kernel_rfl) Try.func12 (by kernel_rfl)
    (of_decide_eq_true (by kernel_rfl)) (by unfold Func.isWrapper; rw [if_neg (of_decide_eq_false (by kernel_rfl))]; exact ⟨rfl, rfl⟩)
    (fun os started H enc _ => lifted os started H enc)

/-- The statement. -/
theorem proved : Rows.KindPacketsSaid := over
#print axioms proved
end Go.Proofs.Ytgbogbjifpijkaa.kindPackets
