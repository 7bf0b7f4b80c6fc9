/- law15's begun. -/
import Derived.Test.YtlabhbjampkhpaaGreatNet4
import Derived.Test.YtlabhbjampkhpaaGreatEqPk
import Derived.Test.YtlabhbjampkhpaaGreatBegun6
import Derived.Test.YtlabhbjampkhpaaGreatBegun8
import Derived.Test.YtlabhbjampkhpaaGreatBytes15
open Go Go.RowKit Go.Maps Go.Sort Go.Shelf
namespace Go.Proofs.YtlabhbjampkhpaaGreat
def p0 : PackV := ⟨1, 1, 2, 4294967297, 3, false⟩
theorem p0_good : GoodP p0 := ⟨by unfold p0 PackV.Ok In64; decide, by decide⟩
theorem zero_bad : packB PackV.zero = false := by decide
theorem ins0 : insP p0 [] = [p0] := rfl
theorem ins1 : insP p0 [p0] = [p0, p0] := by simp [insP]
theorem b6_any (w : World) : Calls Tryz.prog 27 #[] w fun e w' => e = .returned (.bool true) ∧ Keep NoF w w' := by
  go_enter Tryz.func27, Tryz.ntmps27
  go_wp2_with fail
  refine (begun6_any w).mono ?_
  rintro e w1 ⟨rfl, hk⟩
  have K := Lib.hid hk
  clear hk
  go_wp2_with fail
  go_ret
  exact ⟨rfl, K.out⟩
theorem b8_any (w : World) : Calls Tryz.prog 28 #[] w fun e w' => e = .returned (.bool true) ∧ Keep NoF w w' := by
  go_enter Tryz.func28, Tryz.ntmps28
  go_wp2_with fail
  refine (begun8_any w).mono ?_
  rintro e w1 ⟨rfl, hk⟩
  have K := Lib.hid hk
  clear hk
  go_wp2_with fail
  go_ret
  exact ⟨rfl, K.out⟩
theorem send0 (w : World) (F : Nat → Prop) (nb : Nat) (h : NetW w F nb []) :
    Calls Tryz.prog 21 #[.pointer (some ⟨nb, 0, none⟩), .agg #[.int .i64 1, .int .i64 1, .int .i64 2, .int .i64 4294967297, .int .i64 3, .bool false]] w fun e w' => e = .returned (.bool true) ∧ NetW w' (Wid F w w') nb [p0] ∧ Keep F w w' := by
  have h1 := send_any F nb p0 [] w h p0_good.1
  unfold SendPost at h1
  have e : sentB p0 [] = true := by decide
  rw [show sendP p0 [] = [p0] by unfold sendP; rw [e]; rfl, e] at h1
  exact h1
theorem send1 (w : World) (F : Nat → Prop) (nb : Nat) (h : NetW w F nb [p0]) :
    Calls Tryz.prog 21 #[.pointer (some ⟨nb, 0, none⟩), .agg #[.int .i64 1, .int .i64 1, .int .i64 2, .int .i64 4294967297, .int .i64 3, .bool false]] w fun e w' => e = .returned (.bool true) ∧ NetW w' (Wid F w w') nb [p0, p0] ∧ Keep F w w' := by
  have h1 := send_any F nb p0 [p0] w h p0_good.1
  unfold SendPost at h1
  have e : sentB p0 [p0] = true := by decide
  rw [show sendP p0 [p0] = [p0, p0] by unfold sendP; rw [e, if_pos rfl, ins1], e] at h1
  exact h1
theorem take1 (w : World) (F : Nat → Prop) (nb : Nat) (h : NetW w F nb [p0, p0]) :
    Calls Tryz.prog 25 #[.pointer (some ⟨nb, 0, none⟩), .int .i64 1] w fun e w' => e = .returned (.tuple #[.agg #[.int .i64 1, .int .i64 1, .int .i64 2, .int .i64 4294967297, .int .i64 3, .bool false], .bool true]) ∧ NetW w' (Wid F w w') nb [p0] ∧ Keep F w w' := take_any F nb [p0, p0] 1 w h (by decide)
theorem twice0 (w : World) (F : Nat → Prop) (nb : Nat) (h : NetW w F nb [p0]) :
    Calls Tryz.prog 23 #[.pointer (some ⟨nb, 0, none⟩), .int .i64 0] w fun e w' => e = .returned (.bool true) ∧ NetW w' (Wid F w w') nb [p0, p0] ∧ Keep F w w' := by
  have h1 := twice_any F nb [p0] 0 w h (by decide)
  unfold TwicePost at h1
  have e : twiceB [p0] 0 = true := by decide
  rw [show twiceP [p0] 0 = [p0, p0] by unfold twiceP; rw [e, if_pos rfl]; exact ins1, e] at h1
  exact h1
theorem send_zero (w : World) (F : Nat → Prop) (nb : Nat) (ps : List PackV) (h : NetW w F nb ps) :
    Calls Tryz.prog 21 #[.pointer (some ⟨nb, 0, none⟩), .agg #[.int .i64 0, .int .i64 0, .int .i64 0, .int .i64 0, .int .i64 0, .bool false]] w fun e w' => e = .returned (.bool false) ∧ Keep F w w' := by
  refine (send_any F nb PackV.zero ps w h zero_ok).mono ?_
  rintro e w' ⟨rfl, _, hk⟩
  exact ⟨by unfold sentB; rw [zero_bad]; rfl, hk⟩
set_option maxHeartbeats 8000000 in
set_option maxRecDepth 20000 in
theorem begun15_any (w : World) : Calls Tryz.prog 13 #[] w fun e w' => e = .returned (.bool true) ∧ Keep NoF w w' := by
  have HE : Hid (∀ W, Calls Tryz.prog 15 #[.agg #[.int .i64 1, .int .i64 1, .int .i64 2, .int .i64 4294967297, .int .i64 3, .bool false]] W fun e w' => ∃ v, e = .returned v ∧ OwnB w' v (wireB p0) ∧ Keep NoF W w' ∧ ∀ k, v.ownBlock = some k → W.heap.size ≤ k) := Lib.hid fun W => wenc_ok p0 W p0_good.1 p0_good.2
  have HEZ : Hid (∀ W, Calls Tryz.prog 15 #[.agg #[.int .i64 0, .int .i64 0, .int .i64 0, .int .i64 0, .int .i64 0, .bool false]] W fun e w' => e = .returned (.slice none 0 0) ∧ Keep NoF W w') := Lib.hid fun W => wenc_bad PackV.zero W zero_ok zero_bad
  have hwl := wireB_length p0
  have hdw := dec_wire p0 p0_good.1 p0_good.2
  obtain ⟨A, hA⟩ : ∃ A, wireB p0 = A := ⟨_, rfl⟩
  rw [hA] at HE hwl hdw
  have HWL := Lib.hid hwl; have HDW := Lib.hid hdw
  have heqz := fun W => eqSl none 0 0 W
  simp only [Option.isNone_none] at heqz
  clear hA hwl hdw
  go_enter Tryz.func13, Tryz.ntmps13
  obtain ⟨B, hhB⟩ : ∃ B, w.heap.size = B := ⟨_, rfl⟩
  go_upto_region 2 with fail
  have hrB := heap_new w (.cells #[.int .i64 1, .int .i64 1, .int .i64 2, .int .i64 4294967297, .int .i64 3, .bool false] 23 (0, 0))
  have hkB := keep_alloc w (.cells #[.int .i64 1, .int .i64 1, .int .i64 2, .int .i64 4294967297, .int .i64 3, .bool false] 23 (0, 0))
  have hsB : (w.alloc (.cells #[.int .i64 1, .int .i64 1, .int .i64 2, .int .i64 4294967297, .int .i64 3, .bool false] 23 (0, 0))).heap.size = w.heap.size + 1 := size_alloc _ _
  show Code.wp _ _ _ _ (w.alloc (.cells #[.int .i64 1, .int .i64 1, .int .i64 2, .int .i64 4294967297, .int .i64 3, .bool false] 23 (0, 0)))
  rw [hhB] at hrB hsB
  generalize w.alloc (.cells #[.int .i64 1, .int .i64 1, .int .i64 2, .int .i64 4294967297, .int .i64 3, .bool false] 23 (0, 0)) = W1 at hrB hkB hsB ⊢
  (try rw [hhB])
  have HCB : Hid (∀ W : World, W.heap[B]? = W1.heap[B]? → W.cell? ⟨B, 0, none⟩ = some (.int .i64 1) ∧ W.cell? ⟨B, 1, none⟩ = some (.int .i64 1) ∧ W.cell? ⟨B, 2, none⟩ = some (.int .i64 2) ∧ W.cell? ⟨B, 3, none⟩ = some (.int .i64 4294967297) ∧ W.cell? ⟨B, 4, none⟩ = some (.int .i64 3) ∧ W.cell? ⟨B, 5, none⟩ = some (.bool false)) := Lib.hid fun W hW => by
    have e := hW.trans hrB
    refine ⟨?_, ?_, ?_, ?_, ?_, ?_⟩
    all_goals (rw [cell_of_heap e]; rfl)
  have HKB := Lib.hid hkB; have HLB : Hid (B < W1.heap.size ∧ w.heap.size = B) := Lib.hid ⟨by omega, hhB⟩
  clear hrB hkB hsB hhB
  obtain ⟨d0, d1, d2, d3, d4, d5⟩ := HCB.out W1 rfl
  go_wp2_with fail
  refine (HE.out W1).mono ?_
  rintro e w2 ⟨v, rfl, hv, hk2, _⟩
  obtain ⟨ao, cp, rfl, hsl, hbo⟩ := hv.slb
  have HD : Hid (Calls Tryz.prog 18 #[.slice ao 21 cp] w2 fun e w' => e = .returned (.tuple #[.agg #[.int .i64 1, .int .i64 1, .int .i64 2, .int .i64 4294967297, .int .i64 3, .bool false], .int .i64 0]) ∧ Keep NoF w2 w') := by
    refine Lib.hid ?_
    have h := wdec_at ao 21 cp A w2 hsl HWL.out (fun g hg => by
      have := hv.lt g (by rw [← hbo]; exact hg)
      exact this)
    unfold WDecPost at h
    rw [HDW.out.1, HDW.out.2] at h
    exact h
  rw [HWL.out]
  have K2 := Lib.hid hk2
  clear hv hk2 hsl hbo d0 d1 d2 d3 d4 d5
  go_wp2_with fail
  refine HD.out.mono ?_
  rintro e w3 ⟨rfl, hk3⟩
  have K3 := Lib.hid (K2.out.trans' hk3)
  clear hk3 HD
  obtain ⟨C, hhC⟩ : ∃ C, w3.heap.size = C := ⟨_, rfl⟩
  go_upto_region 4 with fail
  have hrC := heap_new w3 (.cells #[.int .i64 1, .int .i64 1, .int .i64 2, .int .i64 4294967297, .int .i64 3, .bool false] 23 (0, 0))
  have hkC := keep_alloc w3 (.cells #[.int .i64 1, .int .i64 1, .int .i64 2, .int .i64 4294967297, .int .i64 3, .bool false] 23 (0, 0))
  have hsC : (w3.alloc (.cells #[.int .i64 1, .int .i64 1, .int .i64 2, .int .i64 4294967297, .int .i64 3, .bool false] 23 (0, 0))).heap.size = w3.heap.size + 1 := size_alloc _ _
  show Code.wp _ _ _ _ (w3.alloc (.cells #[.int .i64 1, .int .i64 1, .int .i64 2, .int .i64 4294967297, .int .i64 3, .bool false] 23 (0, 0)))
  rw [hhC] at hrC hsC
  generalize w3.alloc (.cells #[.int .i64 1, .int .i64 1, .int .i64 2, .int .i64 4294967297, .int .i64 3, .bool false] 23 (0, 0)) = W4 at hrC hkC hsC ⊢
  (try rw [hhC])
  have HCC : Hid (∀ W : World, W.heap[C]? = W4.heap[C]? → W.cell? ⟨C, 0, none⟩ = some (.int .i64 1) ∧ W.cell? ⟨C, 1, none⟩ = some (.int .i64 1) ∧ W.cell? ⟨C, 2, none⟩ = some (.int .i64 2) ∧ W.cell? ⟨C, 3, none⟩ = some (.int .i64 4294967297) ∧ W.cell? ⟨C, 4, none⟩ = some (.int .i64 3) ∧ W.cell? ⟨C, 5, none⟩ = some (.bool false)) := Lib.hid fun W hW => by
    have e := hW.trans hrC
    refine ⟨?_, ?_, ?_, ?_, ?_, ?_⟩
    all_goals (rw [cell_of_heap e]; rfl)
  have HKC := Lib.hid hkC; have HLC : Hid (C < W4.heap.size ∧ w3.heap.size = C) := Lib.hid ⟨by omega, hhC⟩
  clear hrC hkC hsC hhC
  have K4 := Lib.hid (K3.out.trans' HKC.out)
  go_wp2_with fail
  refine (netnew_any W4).mono ?_
  rintro e w5 ⟨nb, F, rfl, hN, hk5, hF5⟩
  have hFs : ∀ k, F k → k < w5.heap.size := by obtain ⟨b, v, l, h⟩ := hN; exact h.lt
  have HN5 := Lib.hid hN; have K5 := Lib.hid hk5; have HF5 := Lib.hid hF5; have HFS := Lib.hid hFs
  clear hN hk5 hF5 hFs
  go_upto_region 5 with fail
  have K15 := Lib.hid (K4.out.trans' K5.out)
  have hd5 := HCB.out w5.drew (K15.out.block B HLB.out.1 (fun f => f))
  refine wp_region_noPanic ?_
  refine wp_region_held_drew (S := (fun W' : World => W'.cell? ⟨B, 0, none⟩ = some (.int .i64 1) ∧ W'.cell? ⟨B, 1, none⟩ = some (.int .i64 1) ∧ W'.cell? ⟨B, 2, none⟩ = some (.int .i64 2) ∧ W'.cell? ⟨B, 3, none⟩ = some (.int .i64 4294967297) ∧ W'.cell? ⟨B, 4, none⟩ = some (.int .i64 3) ∧ W'.cell? ⟨B, 5, none⟩ = some (.bool false))) (by kernel_rfl) (hd5) (fun hHeld => ?_)
  refine wpAnyH_take (i := 0) (oi := ?o0) (v := ?v0) ?hi0 (by kernel_rfl) (by kernel_rfl) (by kernel_rfl) (fun _ _ _ h => h) (Or.inl ⟨?w0, ?y0⟩) (by assumption) ?r0
  case hi0 => (simp only [List.getElem?_toArray, List.getElem?_cons_zero]; try rfl)
  case w0 => rfl
  case y0 => (intro w hSw; (try dsimp only at hSw); go_simp; (try with_reducible rfl))
  (try simp only [Act.put, List.setIfInBounds_toArray, List.set_cons_zero, List.set_cons_succ])
  refine wpAnyH_take (i := 1) (oi := ?o1) (v := ?v1) ?hi1 (by kernel_rfl) (by kernel_rfl) (by kernel_rfl) (fun _ _ _ h => h) (Or.inl ⟨?w1, ?y1⟩) (by assumption) ?r1
  case hi1 => (simp only [List.getElem?_toArray, List.getElem?_cons_succ, List.getElem?_cons_zero]; try rfl)
  case w1 => rfl
  case y1 => (intro w hSw; (try dsimp only at hSw); go_simp; (try with_reducible rfl))
  (try simp only [Act.put, List.setIfInBounds_toArray, List.set_cons_zero, List.set_cons_succ])
  refine wpAnyH_take (i := 3) (oi := ?o3) (v := ?v3) ?hi3 (by kernel_rfl) (by kernel_rfl) (by kernel_rfl) (fun _ _ _ h => h) (Or.inl ⟨?w3, ?y3⟩) (by assumption) ?r3
  case hi3 => (simp only [List.getElem?_toArray, List.getElem?_cons_succ, List.getElem?_cons_zero]; try rfl)
  case w3 => rfl
  case y3 => (intro w hSw; (try dsimp only at hSw); go_simp; (try with_reducible rfl))
  (try simp only [Act.put, List.setIfInBounds_toArray, List.set_cons_zero, List.set_cons_succ])
  refine wpAnyH_take (i := 4) (oi := ?o4) (v := ?v4) ?hi4 (by kernel_rfl) (by kernel_rfl) (by kernel_rfl) (fun _ _ _ h => h) (Or.inl ⟨?w4, ?y4⟩) (by assumption) ?r4
  case hi4 => (simp only [List.getElem?_toArray, List.getElem?_cons_succ, List.getElem?_cons_zero]; try rfl)
  case w4 => rfl
  case y4 => (intro w hSw; (try dsimp only at hSw); go_simp; (try with_reducible rfl))
  (try simp only [Act.put, List.setIfInBounds_toArray, List.set_cons_zero, List.set_cons_succ])
  refine wpAnyH_ready (rs := [2]) (by kernel_rfl) (by simp) ?_
  refine AllReadyH.cons (o := ?o2) ?hi2 (fun K hK => ?_) AllReadyH.nil
  case hi2 => (simp only [List.getElem?_toArray, List.getElem?_cons_succ, List.getElem?_cons_zero]; try rfl)
  go_simp
  (go_at_call 21; refine (send0 _ F nb (HN5.out.keep (Keep.refl NoF w5).drew (fun _ _ f => f))).mono ?_; rintro e w6 ⟨rfl, hN6, hk6⟩; have HN6 := Lib.hid hN6; have K6 : Hid (Keep F w5 w6) := Lib.hid hk6.of_drew; have K16 : Hid (Keep NoF W4 w6) := Lib.hid (K5.out.trans K6.out (fun _ _ f => f) (fun k hk f => by have := HF5.out k f; omega)); clear hN6 hk6)
  go_wp2_with fail
  refine hK.out _ _ (HCB.out _ ((K4.out.trans' K16.out).block B HLB.out.1 (fun f => f))) (fun hHeld => ?_)
  clear hK K
  (try simp only [Act.put, List.setIfInBounds_toArray, List.set_cons_zero, List.set_cons_succ])
  refine wpAnyH_ready (rs := [5]) (by kernel_rfl) (by simp) ?_
  refine AllReadyH.cons (o := ?o5) ?hi5 (fun K hK => ?_) AllReadyH.nil
  case hi5 => (simp only [List.getElem?_toArray, List.getElem?_cons_succ, List.getElem?_cons_zero]; try rfl)
  go_simp
  (go_at_call 21; refine (send1 w6 _ nb HN6.out).mono ?_; rintro e w7 ⟨rfl, hN7, hk7⟩; have HN7 := Lib.hid hN7; have K7 := Lib.hid hk7; have K17 : Hid (Keep NoF W4 w7) := Lib.hid (K16.out.trans K7.out (fun _ _ f => f) (fun k hk f => f.elim (fun f => by have := HF5.out k f; omega) (fun f => by have e1 : w5.drew.heap.size = w5.heap.size := rfl; have := K5.out.size; omega))); clear hN7 hk7)
  go_wp2_with fail
  refine hK.out _ _ (HCB.out _ ((K4.out.trans' K17.out).block B HLB.out.1 (fun f => f))) (fun hHeld => ?_)
  clear hK K
  (try simp only [Act.put, List.setIfInBounds_toArray, List.set_cons_zero, List.set_cons_succ])
  refine wpAnyH_take (i := 6) (oi := ?o6) (v := ?v6) ?hi6 (by kernel_rfl) (by kernel_rfl) (by kernel_rfl) (fun _ _ _ h => h) (Or.inl ⟨?w6, ?y6⟩) (by assumption) ?r6
  case hi6 => (simp only [List.getElem?_toArray, List.getElem?_cons_succ, List.getElem?_cons_zero]; try rfl)
  case w6 => rfl
  case y6 => (intro w hSw; (try dsimp only at hSw); go_simp; (try with_reducible rfl))
  (try simp only [Act.put, List.setIfInBounds_toArray, List.set_cons_zero, List.set_cons_succ])
  refine wpAnyH_take (i := 7) (oi := ?o7) (v := ?v7) ?hi7 (by kernel_rfl) (by kernel_rfl) (by kernel_rfl) (fun _ _ _ h => h) (Or.inl ⟨?w7, ?y7⟩) (by assumption) ?r7
  case hi7 => (simp only [List.getElem?_toArray, List.getElem?_cons_succ, List.getElem?_cons_zero]; try rfl)
  case w7 => rfl
  case y7 => (intro w hSw; (try dsimp only at hSw); go_simp; (try with_reducible rfl))
  (try simp only [Act.put, List.setIfInBounds_toArray, List.set_cons_zero, List.set_cons_succ])
  refine wpAnyH_done (by kernel_rfl) ?_ _
  refine NoPanic.normal ?_
  generalize hG : Wid (Wid F w5.drew w6) w6 w7 = G at HN7
  have hGl : ∀ k, G k → W4.heap.size ≤ k ∧ k < w7.heap.size := fun k hk => by
    obtain ⟨b, v, l, h⟩ := HN7.out
    refine ⟨?_, h.lt k hk⟩
    rw [← hG] at hk
    have e1 : w5.drew.heap.size = w5.heap.size := rfl
    have := K5.out.size; have := K6.out.size
    rcases hk with (f | f) | f
    · exact HF5.out k f
    · omega
    · omega
  have HG := Lib.hid hGl
  clear hGl hG
  clear hd5
  go_wp2_with fail
  refine (take1 w7 G nb HN7.out).mono ?_
  rintro e w8 ⟨rfl, hN8, hk8⟩
  have HN8 := Lib.hid hN8; have K8 := Lib.hid hk8
  have K18 : Hid (Keep NoF W4 w8) := Lib.hid (K17.out.trans hk8 (fun _ _ f => f) (fun k hk f => by have := (HG.out k f).1; omega))
  clear hN8 hk8
  obtain ⟨D, hhD⟩ : ∃ D, w8.heap.size = D := ⟨_, rfl⟩
  go_upto_region 7 with fail
  have hrD := heap_new w8 (.cells #[.int .i64 1, .int .i64 1, .int .i64 2, .int .i64 4294967297, .int .i64 3, .bool false] 23 (0, 0))
  have hkD := keep_alloc w8 (.cells #[.int .i64 1, .int .i64 1, .int .i64 2, .int .i64 4294967297, .int .i64 3, .bool false] 23 (0, 0))
  have hsD : (w8.alloc (.cells #[.int .i64 1, .int .i64 1, .int .i64 2, .int .i64 4294967297, .int .i64 3, .bool false] 23 (0, 0))).heap.size = w8.heap.size + 1 := size_alloc _ _
  show Code.wp _ _ _ _ (w8.alloc (.cells #[.int .i64 1, .int .i64 1, .int .i64 2, .int .i64 4294967297, .int .i64 3, .bool false] 23 (0, 0)))
  rw [hhD] at hrD hsD
  generalize w8.alloc (.cells #[.int .i64 1, .int .i64 1, .int .i64 2, .int .i64 4294967297, .int .i64 3, .bool false] 23 (0, 0)) = W9 at hrD hkD hsD ⊢
  (try rw [hhD])
  have HCD : Hid (∀ W : World, W.heap[D]? = W9.heap[D]? → W.cell? ⟨D, 0, none⟩ = some (.int .i64 1) ∧ W.cell? ⟨D, 1, none⟩ = some (.int .i64 1) ∧ W.cell? ⟨D, 2, none⟩ = some (.int .i64 2) ∧ W.cell? ⟨D, 3, none⟩ = some (.int .i64 4294967297) ∧ W.cell? ⟨D, 4, none⟩ = some (.int .i64 3) ∧ W.cell? ⟨D, 5, none⟩ = some (.bool false)) := Lib.hid fun W hW => by
    have e := hW.trans hrD
    refine ⟨?_, ?_, ?_, ?_, ?_, ?_⟩
    all_goals (rw [cell_of_heap e]; rfl)
  have HKD := Lib.hid hkD; have HLD : Hid (D < W9.heap.size ∧ w8.heap.size = D) := Lib.hid ⟨by omega, hhD⟩
  clear hrD hkD hsD hhD
  have hWl : ∀ k, Wid G w7 w8 k → W4.heap.size ≤ k ∧ k < D := fun k hk => by
    have := K17.out.size; have := K8.out.size; have := HLD.out.2
    rcases hk with f | f
    · have := HG.out k f; omega
    · omega
  have HWL2 := Lib.hid hWl
  clear hWl
  have K19 := Lib.hid (K18.out.trans' HKD.out)
  have HN9 := Lib.hid (HN8.out.keep HKD.out (fun _ _ f => f))
  have HBL := HLB.out.1; have HCL := HLC.out.1; have HDL := HLD.out.1
  have HLs := Lib.hid (And.intro HBL (And.intro HCL HDL))
  clear HBL HCL HDL
  go_wp2_with fail
  refine (b6_any W9).mono ?_
  rintro e w10 ⟨rfl, hk10⟩
  have K10 := Lib.hid hk10; clear hk10
  go_wp2_with fail
  refine (b8_any w10).mono ?_
  rintro e w11 ⟨rfl, hk11⟩
  have K11 := Lib.hid (K10.out.trans' hk11); clear hk11
  have K111 := Lib.hid (K19.out.trans' K11.out)
  have q0 := HCB.out w11 ((K4.out.trans' K111.out).block B HLs.out.1 (fun f => f))
  have q1 := HCC.out w11 (K111.out.block C HLs.out.2.1 (fun f => f))
  have HN11 := Lib.hid (HN9.out.keep K11.out (fun _ _ f => f))
  obtain ⟨b0, b1, b2, b3, b4, b5⟩ := q0
  obtain ⟨c0, c1, c2, c3, c4, c5⟩ := q1
  go_wp2_with fail
  refine (HEZ.out w11).mono ?_
  rintro e w12 ⟨rfl, hk12⟩
  have K12 := Lib.hid (K11.out.trans' hk12); clear hk12
  have K112 := Lib.hid (K19.out.trans' K12.out)
  have HN12 := Lib.hid (HN9.out.keep K12.out (fun _ _ f => f))
  clear b0 b1 b2 b3 b4 b5 c0 c1 c2 c3 c4 c5
  have q0 := HCB.out w12 ((K4.out.trans' K112.out).block B HLs.out.1 (fun f => f))
  have q1 := HCD.out w12 (K12.out.block D HLs.out.2.2 (fun f => f))
  obtain ⟨b0, b1, b2, b3, b4, b5⟩ := q0
  obtain ⟨c0, c1, c2, c3, c4, c5⟩ := q1
  have heqz2 := heqz w12
  go_wp2_with fail
  refine (netlen_any _ nb [p0] w12 HN12.out).mono ?_
  rintro e w' ⟨rfl, hw⟩
  obtain rfl : w12 = w' := hw.symm
  clear b0 b1 b2 b3 b4 b5 c0 c1 c2 c3 c4 c5 heqz2
  rw [show (([p0] : List PackV).length : Int) = 1 from rfl]
  go_wp2_with fail
  refine (twice0 w12 _ nb HN12.out).mono ?_
  rintro e w13 ⟨rfl, hN13, hk13⟩
  have HN13 := Lib.hid hN13; have K13 := Lib.hid hk13
  clear hN13 hk13
  go_wp2_with fail
  refine (netlen_any _ nb [p0, p0] w13 HN13.out).mono ?_
  rintro e w' ⟨rfl, hw⟩
  obtain rfl : w13 = w' := hw.symm
  rw [show (([p0, p0] : List PackV).length : Int) = 2 from rfl]
  go_wp2_with fail
  refine (send_zero w13 _ nb _ HN13.out).mono ?_
  rintro e w14 ⟨rfl, hk14⟩
  have K14 := Lib.hid hk14; clear hk14
  go_wp2_with fail
  go_ret
  have s0 := K112.out.size; have s1 := K13.out.size; have s2 := K4.out.size; have s3 := HKB.out.size; have s4 := K12.out.size; have s5 := HLD.out.1
  have k1 := (HKB.out.trans' K4.out).trans' K112.out
  refine ⟨rfl, (k1.trans K13.out (fun _ _ f => f) (fun k hk f => ?_)).trans K14.out (fun _ _ f => f) (fun k hk f => ?_)⟩
  · have := (HWL2.out k f).1; omega
  · rcases f with f | f
    · have := (HWL2.out k f).1; omega
    · omega
end Go.Proofs.YtlabhbjampkhpaaGreat
