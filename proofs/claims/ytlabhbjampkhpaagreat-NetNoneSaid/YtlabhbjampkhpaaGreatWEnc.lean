/- wire's writer: a packet's bytes. -/
import Derived.Test.YtlabhbjampkhpaaGreatSeal
import Derived.Test.YtlabhbjampkhpaaGreatPack
import Derived.Test.YtlabhbjampkhpaaGreatEnc
open Go Go.RowKit
namespace Go.Proofs.YtlabhbjampkhpaaGreat
def pkB (p : PackV) : List UInt8 := ((((([] ++ smallB p.kind) ++ smallB p.from_) ++ smallB p.to) ++ longB p.tid) ++ smallB p.n) ++ truthB p.yes
theorem pkB_length (p : PackV) : (pkB p).length = 17 := by simp [pkB, smallB_length, longB_length, truthB_length]
def wireB (p : PackV) : List UInt8 := sealB (pkB p)
theorem wireB_length (p : PackV) : (wireB p).length = 21 := by rw [wireB, sealB_length, pkB_length]
def pkCells (p : PackV) : Array Value := #[.int .i64 p.kind, .int .i64 p.from_, .int .i64 p.to, .int .i64 p.tid, .int .i64 p.n, .bool p.yes]

set_option maxHeartbeats 1000000 in
theorem wenc_bad (p : PackV) (w : World) (hp : p.Ok) (hb : packB p = false) :
    Calls Tryz.prog 15 #[packVal p] w fun e w' => e = .returned (.slice none 0 0) ∧ Keep NoF w w' := by
  have hc := fun W => kpacket_any p W hp
  rw [hb] at hc
  obtain ⟨k, f, t, d, n, y⟩ := p
  unfold packVal at hc ⊢
  simp only at hc ⊢
  have HC := Lib.hid hc
  clear hc hp hb
  go_enter Tryz.func15, Tryz.ntmps15
  go_wp2_with fail
  refine (HC.out _).mono ?_
  rintro e w1 ⟨rfl, hk1⟩
  have K1 := Lib.hid ((keep_alloc w _).trans' hk1); clear hk1
  go_wp2_with fail
  go_ret
  exact ⟨rfl, K1.out⟩

set_option maxHeartbeats 2000000 in
theorem wenc_ok (p : PackV) (w : World) (hp : p.Ok) (hb : packB p = true) :
    Calls Tryz.prog 15 #[packVal p] w fun e w' => ∃ v, e = .returned v ∧ OwnB w' v (wireB p) ∧ Keep NoF w w' ∧ ∀ k, v.ownBlock = some k → w.heap.size ≤ k := by
  have hc := fun W => kpacket_any p W hp
  rw [hb] at hc
  obtain ⟨k, f, t, d, n, y⟩ := p
  unfold packVal at hc ⊢
  simp only at hc ⊢
  have HC := Lib.hid hc
  have HP := Lib.hid hp
  clear hc hp hb
  go_enter Tryz.func15, Tryz.ntmps15
  go_wp2_with fail
  refine (HC.out _).mono ?_
  rintro e w1 ⟨rfl, hk1⟩
  have K1 := Lib.hid ((keep_alloc w _).trans' hk1)
  have CS : Hid (∀ W, Keep NoF w1 W → W.cell? ⟨w.heap.size, 0, none⟩ = some (.int .i64 k) ∧ W.cell? ⟨w.heap.size, 1, none⟩ = some (.int .i64 f) ∧ W.cell? ⟨w.heap.size, 2, none⟩ = some (.int .i64 t) ∧
      W.cell? ⟨w.heap.size, 3, none⟩ = some (.int .i64 d) ∧ W.cell? ⟨w.heap.size, 4, none⟩ = some (.int .i64 n) ∧ W.cell? ⟨w.heap.size, 5, none⟩ = some (.bool y)) := by
    intro W hW
    refine ⟨hW.cell' (hk1.cell' ?_ (fun f => f)) (fun f => f), hW.cell' (hk1.cell' ?_ (fun f => f)) (fun f => f), hW.cell' (hk1.cell' ?_ (fun f => f)) (fun f => f), hW.cell' (hk1.cell' ?_ (fun f => f)) (fun f => f), hW.cell' (hk1.cell' ?_ (fun f => f)) (fun f => f), hW.cell' (hk1.cell' ?_ (fun f => f)) (fun f => f)⟩
    all_goals (rw [cell_of_heap (heap_new _ _)]; rfl)
  have HI1 := Lib.hid (WrI.start w1)
  have d0 := (CS.out _ HI1.out.keep).1
  clear hk1
  go_wp2_with fail
  obtain ⟨O, hO⟩ : ∃ O, w1.heap.size = O := ⟨_, rfl⟩
  rw [hO] at HI1 ⊢
  clear hO
  refine (small_any O none [] k _ HI1.out.out (by simp)).mono ?_
  rintro e w3 ⟨rfl, hs⟩
  obtain ⟨g3, hI3⟩ := HI1.out.step hs
  have HI3 := Lib.hid hI3; clear hs hI3 d0 HI1
  have d1 := (CS.out _ HI3.out.keep).2.1
  go_wp2_with fail
  refine (small_any O g3 _ f _ HI3.out.out (by simp [smallB_length])).mono ?_
  rintro e w4 ⟨rfl, hs⟩
  obtain ⟨g4, hI4⟩ := HI3.out.step hs
  have HI4 := Lib.hid hI4; clear hs hI4 d1 HI3
  have d2 := (CS.out _ HI4.out.keep).2.2.1
  go_wp2_with fail
  refine (small_any O g4 _ t _ HI4.out.out (by simp [smallB_length])).mono ?_
  rintro e w5 ⟨rfl, hs⟩
  obtain ⟨g5, hI5⟩ := HI4.out.step hs
  have HI5 := Lib.hid hI5; clear hs hI5 d2 HI4
  have d3 := (CS.out _ HI5.out.keep).2.2.2.1
  go_wp2_with fail
  refine (long_any O g5 _ d _ HI5.out.out (by simp [smallB_length])).mono ?_
  rintro e w6 ⟨rfl, hs⟩
  obtain ⟨g6, hI6⟩ := HI5.out.step hs
  have HI6 := Lib.hid hI6; clear hs hI6 d3 HI5
  have d4 := (CS.out _ HI6.out.keep).2.2.2.2.1
  go_wp2_with fail
  refine (small_any O g6 _ n _ HI6.out.out (by simp [smallB_length, longB_length])).mono ?_
  rintro e w7 ⟨rfl, hs⟩
  obtain ⟨g7, hI7⟩ := HI6.out.step hs
  have HI7 := Lib.hid hI7; clear hs hI7 d4 HI6
  have d5 := (CS.out _ HI7.out.keep).2.2.2.2.2
  go_wp2_with fail
  refine (truth_any O g7 _ y _ HI7.out.out (by simp [smallB_length, longB_length])).mono ?_
  rintro e w8 ⟨rfl, hs⟩
  obtain ⟨g8, hI8⟩ := HI7.out.step hs
  have hI8' : WrI w1 w8 O g8 (pkB ⟨k, f, t, d, n, y⟩) := hI8
  have HI8 := Lib.hid hI8'; clear hs hI8 hI8' d5 HI7
  obtain ⟨v, hv, hvg⟩ := HI8.out.out
  have cv := cell_of_heap hv.1 0
  have cv2 : w8.cell? ⟨O, 0, none⟩ = some v := by rw [cv]; rfl
  have HV := Lib.hid hv; have HG := Lib.hid hvg
  clear hv cv hvg
  go_wp2_with fail
  refine (sealed_any v (pkB ⟨k, f, t, d, n, y⟩) 17 w8 HV.out.2.1 (pkB_length _) (by decide)).mono ?_
  rintro e w9 ⟨v9, rfl, ho9, hk9, hg9⟩
  have HO9 := Lib.hid ho9
  have K9 : Hid (Keep NoF w w9) := Lib.hid ((K1.out.trans' HI8.out.keep).trans hk9 (fun _ _ f => f) (fun i hi e => by
    have := HI8.out.gn i (by rw [← HG.out]; exact e); have := K1.out.size; omega))
  have HG9 : Hid (∀ k, v9.ownBlock = some k → w.heap.size ≤ k) := Lib.hid (fun k hk => by
    rcases hg9 with f | f
    · have := HI8.out.gn k (by rw [← HG.out, ← f]; exact hk); have := K1.out.size; omega
    · have := f k hk; have := K1.out.size; have := HI8.out.keep.size; omega)
  clear ho9 hk9 hg9
  go_wp2_with fail
  go_ret
  exact ⟨v9, rfl, HO9.out, K9.out, HG9.out⟩
end Go.Proofs.YtlabhbjampkhpaaGreat
