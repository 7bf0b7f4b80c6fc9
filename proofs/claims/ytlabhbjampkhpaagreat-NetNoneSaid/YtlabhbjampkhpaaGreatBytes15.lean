/- The document's bytes of a packet. -/
import Derived.Test.YtlabhbjampkhpaaGreatAppB
import Derived.Test.YtlabhbjampkhpaaGreatRefSum
import Derived.Test.YtlabhbjampkhpaaGreatWEnc
import Derived.Deep.CutRange
open Go Go.RowKit
namespace Go.Proofs.YtlabhbjampkhpaaGreat
theorem apart_new {wr : World} {v vn : Value} {l : List UInt8} (ho : OwnB wr v l) (hf : ∀ k, vn.ownBlock = some k → wr.heap.size ≤ k) : ∀ k, vn.ownBlock = some k → v.ownBlock ≠ some k := fun k hk e => by
  have := ho.lt k e
  have := hf k hk
  omega
theorem apart_app {wc w9 : World} {v v9 vL : Value} {l : List UInt8} (ho : OwnB wc vL l) (ha : ∀ k, vL.ownBlock = some k → v.ownBlock ≠ some k) (hgr : wc.grownBy w9 v.ownBlock) (hfr : v9.ownBlock = v.ownBlock ∨ v9.ownBlock = some wc.heap.size) :
    OwnB w9 vL l ∧ ∀ k, vL.ownBlock = some k → v9.ownBlock ≠ some k := by
  refine ⟨ho.keep ((Keep.refl (fun k => v.ownBlock = some k) wc).grown hgr (fun k _ e => e)) ha, fun k hk e => ?_⟩
  rcases hfr with f | f
  · exact ha k hk (f ▸ e)
  · rw [f] at e
    have := ho.lt k hk
    injection e with e
    omega
theorem size_alloc (w : World) (o : Obj) : (w.alloc o).heap.size = w.heap.size + 1 := by simp
theorem len_app {l l2 : List UInt8} {a b : Nat} (h : l.length = a) (h2 : l2.length = b) : (l ++ l2).length = a + b := by
  rw [List.length_append, h, h2]
set_option maxHeartbeats 16000000 in
set_option maxRecDepth 40000 in
theorem bytes15_any (p : PackV) (w : World) :
    Calls Tryz.prog 19 #[packVal p] w fun e w' => ∃ v, e = .returned v ∧ OwnB w' v (wireB p) ∧ Keep NoF w w' ∧ ∀ k, v.ownBlock = some k → w.heap.size ≤ k := by
  have HWB : Hid (wireB p = sealB (pkB p)) := Lib.hid rfl
  obtain ⟨k, f, t, d, n, y⟩ := p
  unfold packVal
  simp only
  go_enter Tryz.func19, Tryz.ntmps19
  go_upto_region 2 with fail
  have hb := heap_new w (.cells #[.int .i64 k, .int .i64 f, .int .i64 t, .int .i64 d, .int .i64 n, .bool y] 23 (0, 0))
  have hka : Keep NoF w (w.alloc (.cells #[.int .i64 k, .int .i64 f, .int .i64 t, .int .i64 d, .int .i64 n, .bool y] 23 (0, 0))) := keep_alloc _ _
  show Code.wp _ _ _ _ (w.alloc (.cells #[.int .i64 k, .int .i64 f, .int .i64 t, .int .i64 d, .int .i64 n, .bool y] 23 (0, 0)))
  obtain ⟨B, hB⟩ : ∃ B, w.heap.size = B := ⟨_, rfl⟩
  rw [hB] at hb
  generalize w.alloc (.cells #[.int .i64 k, .int .i64 f, .int .i64 t, .int .i64 d, .int .i64 n, .bool y] 23 (0, 0)) = W1 at hb hka ⊢
  rw [hB]
  have HC : Hid (∀ W, Keep NoF W1 W → W.cell? ⟨B, 0, none⟩ = some (.int .i64 k) ∧ W.cell? ⟨B, 1, none⟩ = some (.int .i64 f) ∧ W.cell? ⟨B, 2, none⟩ = some (.int .i64 t) ∧ W.cell? ⟨B, 3, none⟩ = some (.int .i64 d) ∧
      W.cell? ⟨B, 4, none⟩ = some (.int .i64 n) ∧ W.cell? ⟨B, 5, none⟩ = some (.bool y)) := by
    refine Lib.hid ?_
    intro W hW
    have h2 : W.heap[B]? = some (.cells #[.int .i64 k, .int .i64 f, .int .i64 t, .int .i64 d, .int .i64 n, .bool y] 23 (0, 0)) := by rw [hW.block B (lt_of_heap hb) (fun f => f)]; exact hb
    refine ⟨?_, ?_, ?_, ?_, ?_, ?_⟩
    all_goals (rw [cell_of_heap h2]; rfl)
  have KA := Lib.hid hka
  clear hka hB
  obtain ⟨d0, d1, d2, d3, d4, d5⟩ := HC.out W1 (Keep.refl NoF W1)
  obtain ⟨C, hC⟩ : ∃ C, W1.heap.size = C := ⟨_, rfl⟩
  go_upto_region 3 with fail
  have hc := heap_new W1 (.cells #[.int .i64 k, .int .i64 f, .int .i64 t] 3 (0, 0))
  have hkc : Keep NoF W1 (W1.alloc (.cells #[.int .i64 k, .int .i64 f, .int .i64 t] 3 (0, 0))) := keep_alloc _ _
  show Code.wp _ _ _ _ (W1.alloc (.cells #[.int .i64 k, .int .i64 f, .int .i64 t] 3 (0, 0)))
  rw [hC] at hc
  generalize W1.alloc (.cells #[.int .i64 k, .int .i64 f, .int .i64 t] 3 (0, 0)) = W2 at hc hkc ⊢
  have HCC := Lib.hid hc; have KC := Lib.hid hkc
  clear hc hkc hC d0 d1 d2 d3 d4 d5 hb
  go_loopw [3, 15] (fun av iv wr => ∃ (j : Nat) (l : List UInt8), j ≤ 3 ∧ iv = .int .i64 j ∧ l = ([k, f, t].take j).flatMap smallB ∧ AccI W2 wr av l) (fun _ iv _ => 3 - (intOf iv).toNat)
  case atStart => exact ⟨0, [], by omega, rfl, rfl, ⟨OwnB.nil _, Keep.refl _ _, nofun⟩⟩
  case round =>
    obtain ⟨j, l, hj, rfl, hl, hA⟩ := hrel
    have HL := Lib.hid hl; have HA := Lib.hid hA
    have hw := hA.keep.block C (lt_of_heap HCC.out) (fun f => f)
    have hrow := hw.trans HCC.out
    have c0 := cell_of_heap hrow 0
    have c1 := cell_of_heap hrow 1
    have c2 := cell_of_heap hrow 2
    simp at c0 c1 c2
    have hnl : l.length = 2 * j := by
      rw [hl]
      have : j = 0 ∨ j = 1 ∨ j = 2 ∨ j = 3 := by omega
      rcases this with rfl | rfl | rfl | rfl <;> simp [smallB_length]
    have HNL := Lib.hid hnl
    clear hl hA hw hrow hnl
    have hjj : j = 0 ∨ j = 1 ∨ j = 2 ∨ j = 3 := by omega
    rcases hjj with rfl | rfl | rfl | rfl
    · go_wp2_with fail
      refine (refSmall_any k _).mono ?_
      rintro e wx ⟨vx, rfl, hox, hkx, hfx⟩
      have ACCX := Lib.hid (HA.out.still hkx)
      have hrow := ACCX.out.row HNL.out
      have hsrc := own_srcN (P := Tryz.prog) hox (smallB_length k) Tryz.underlying24
      clear hox hkx hfx c0 c1 c2
      go_wp2_with (at_builtin; refine wpList_app 24 24 5 (.int .u8 0) 1 1 Tryz.underlying24 infoU8 rfl (by decide) (by decide) rfl rfl rfl rfl hrow hsrc (by omega) ?_)
      intro ao9 cp9 w9 hown9 hgr9 hfr9
      have ACC9 := Lib.hid (ACCX.out.app hown9 HNL.out.symm (smallB_length k).symm rfl hgr9 hfr9)
      clear hown9 hgr9 hfr9
      go_wp2_with fail
      go_roundw
      case rel => exact ⟨1, l ++ smallB k, by omega, by go_num, by rw [HL.out]; simp, ACC9.out⟩
      case measure => simp [intOf]
    · go_wp2_with fail
      refine (refSmall_any f _).mono ?_
      rintro e wx ⟨vx, rfl, hox, hkx, hfx⟩
      have ACCX := Lib.hid (HA.out.still hkx)
      have hrow := ACCX.out.row HNL.out
      have hsrc := own_srcN (P := Tryz.prog) hox (smallB_length f) Tryz.underlying24
      clear hox hkx hfx c0 c1 c2
      go_wp2_with (at_builtin; refine wpList_app 24 24 5 (.int .u8 0) 1 1 Tryz.underlying24 infoU8 rfl (by decide) (by decide) rfl rfl rfl rfl hrow hsrc (by omega) ?_)
      intro ao9 cp9 w9 hown9 hgr9 hfr9
      have ACC9 := Lib.hid (ACCX.out.app hown9 HNL.out.symm (smallB_length f).symm rfl hgr9 hfr9)
      clear hown9 hgr9 hfr9
      go_wp2_with fail
      go_roundw
      case rel => exact ⟨2, l ++ smallB f, by omega, by go_num, by rw [HL.out]; simp, ACC9.out⟩
      case measure => simp [intOf]
    · go_wp2_with fail
      refine (refSmall_any t _).mono ?_
      rintro e wx ⟨vx, rfl, hox, hkx, hfx⟩
      have ACCX := Lib.hid (HA.out.still hkx)
      have hrow := ACCX.out.row HNL.out
      have hsrc := own_srcN (P := Tryz.prog) hox (smallB_length t) Tryz.underlying24
      clear hox hkx hfx c0 c1 c2
      go_wp2_with (at_builtin; refine wpList_app 24 24 5 (.int .u8 0) 1 1 Tryz.underlying24 infoU8 rfl (by decide) (by decide) rfl rfl rfl rfl hrow hsrc (by omega) ?_)
      intro ao9 cp9 w9 hown9 hgr9 hfr9
      have ACC9 := Lib.hid (ACCX.out.app hown9 HNL.out.symm (smallB_length t).symm rfl hgr9 hfr9)
      clear hown9 hgr9 hfr9
      go_wp2_with fail
      go_roundw
      case rel => exact ⟨3, l ++ smallB t, by omega, by go_num, by rw [HL.out]; simp, ACC9.out⟩
      case measure => simp [intOf]
    · clear c0 c1 c2
      have HL6 : Hid (l.length = 6) := HNL
      have hl6 : l = (([] ++ smallB k) ++ smallB f) ++ smallB t := by rw [HL.out]; simp
      have HP : Hid (((l ++ longB d) ++ smallB n) ++ truthB y = pkB ⟨k, f, t, d, n, y⟩) := by rw [hl6]; exact Lib.hid rfl
      have ACC := HA
      have HC2 : Hid (∀ W, Keep NoF W2 W → W.cell? ⟨B, 0, none⟩ = some (.int .i64 k) ∧ W.cell? ⟨B, 1, none⟩ = some (.int .i64 f) ∧ W.cell? ⟨B, 2, none⟩ = some (.int .i64 t) ∧ W.cell? ⟨B, 3, none⟩ = some (.int .i64 d) ∧ W.cell? ⟨B, 4, none⟩ = some (.int .i64 n) ∧ W.cell? ⟨B, 5, none⟩ = some (.bool y)) := Lib.hid fun W hW => HC.out W (KC.out.trans' hW)
      clear hl6 HNL HL HCC
      obtain ⟨W0, rfl⟩ : ∃ W, W = wr := ⟨_, rfl⟩
      go_upto_region 7 with fail
      go_cut [3] from 24 to 52 (fun v wx => AccI W2 wx v (((l ++ longB d) ++ smallB n) ++ truthB y))
      case first =>
        refine wp_region_noPanic ?_
        refine wp_region_held_drew (S := (fun W' : World => W'.cell? ⟨B, 0, none⟩ = some (.int .i64 k) ∧ W'.cell? ⟨B, 1, none⟩ = some (.int .i64 f) ∧ W'.cell? ⟨B, 2, none⟩ = some (.int .i64 t) ∧ W'.cell? ⟨B, 3, none⟩ = some (.int .i64 d) ∧ W'.cell? ⟨B, 4, none⟩ = some (.int .i64 n) ∧ W'.cell? ⟨B, 5, none⟩ = some (.bool y))) (by kernel_rfl) (HC2.out _ ACC.out.keep.drew) (fun hHeld => ?_)
        refine wpAnyH_take (i := 0) (oi := ?o0) (v := ?v0) ?hi0 (by kernel_rfl) (by kernel_rfl) (by kernel_rfl) (fun _ _ _ h => h) (Or.inl ⟨?w0, ?y0⟩) (by assumption) ?r0
        case hi0 => (simp only [List.getElem?_toArray, List.getElem?_cons_zero]; try rfl)
        case w0 => rfl
        case y0 => (intro w hSw; (try dsimp only at hSw); go_simp; (try with_reducible rfl))
        (try simp only [Act.put, List.setIfInBounds_toArray, List.set_cons_zero, List.set_cons_succ])
        refine wpAnyH_take (i := 1) (oi := ?o1) (v := ?v1) ?hi1 (by kernel_rfl) (by kernel_rfl) (by kernel_rfl) (fun _ _ _ h => h) (Or.inl ⟨?w1, ?y1⟩) (by assumption) ?r1
        case hi1 => (simp only [List.getElem?_toArray, List.getElem?_cons_succ, List.getElem?_cons_zero]; try rfl)
        case w1 => rfl
        case y1 => (intro w hSw; (try dsimp only at hSw); go_simp; (try with_reducible rfl))
        (try simp only [Act.put, List.setIfInBounds_toArray, List.set_cons_zero, List.set_cons_succ])
        refine wpAnyH_take (i := 2) (oi := ?o2) (v := ?v2) ?hi2 (by kernel_rfl) (by kernel_rfl) (by kernel_rfl) (fun _ _ _ h => h) (Or.inl ⟨?w2, ?y2⟩) (by assumption) ?r2
        case hi2 => (simp only [List.getElem?_toArray, List.getElem?_cons_succ, List.getElem?_cons_zero]; try rfl)
        case w2 => rfl
        case y2 => (intro w hSw; (try dsimp only at hSw); go_simp; (try with_reducible rfl))
        (try simp only [Act.put, List.setIfInBounds_toArray, List.set_cons_zero, List.set_cons_succ])
        refine wpAnyH_take (i := 5) (oi := ?o5) (v := ?v5) ?hi5 (by kernel_rfl) (by kernel_rfl) (by kernel_rfl) (fun _ _ _ h => h) (Or.inl ⟨?w5, ?y5⟩) (by assumption) ?r5
        case hi5 => (simp only [List.getElem?_toArray, List.getElem?_cons_succ, List.getElem?_cons_zero]; try rfl)
        case w5 => rfl
        case y5 => (intro w hSw; (try dsimp only at hSw); go_simp; (try with_reducible rfl))
        (try simp only [Act.put, List.setIfInBounds_toArray, List.set_cons_zero, List.set_cons_succ])
        refine wpAnyH_take (i := 6) (oi := ?o6) (v := ?v6) ?hi6 (by kernel_rfl) (by kernel_rfl) (by kernel_rfl) (fun _ _ _ h => h) (Or.inl ⟨?w6, ?y6⟩) (by assumption) ?r6
        case hi6 => (simp only [List.getElem?_toArray, List.getElem?_cons_succ, List.getElem?_cons_zero]; try rfl)
        case w6 => rfl
        case y6 => (intro w hSw; (try dsimp only at hSw); go_simp; (try with_reducible rfl))
        (try simp only [Act.put, List.setIfInBounds_toArray, List.set_cons_zero, List.set_cons_succ])
        refine wpAnyH_take (i := 9) (oi := ?o9) (v := ?v9) ?hi9 (by kernel_rfl) (by kernel_rfl) (by kernel_rfl) (fun _ _ _ h => h) (Or.inl ⟨?w9, ?y9⟩) (by assumption) ?r9
        case hi9 => (simp only [List.getElem?_toArray, List.getElem?_cons_succ, List.getElem?_cons_zero]; try rfl)
        case w9 => rfl
        case y9 => (intro w hSw; (try dsimp only at hSw); go_simp; (try with_reducible rfl))
        (try simp only [Act.put, List.setIfInBounds_toArray, List.set_cons_zero, List.set_cons_succ])
        refine wpAnyH_take (i := 10) (oi := ?o10) (v := ?v10) ?hi10 (by kernel_rfl) (by kernel_rfl) (by kernel_rfl) (fun _ _ _ h => h) (Or.inl ⟨?w10, ?y10⟩) (by assumption) ?r10
        case hi10 => (simp only [List.getElem?_toArray, List.getElem?_cons_succ, List.getElem?_cons_zero]; try rfl)
        case w10 => rfl
        case y10 => (intro w hSw; (try dsimp only at hSw); go_simp; (try with_reducible rfl))
        (try simp only [Act.put, List.setIfInBounds_toArray, List.set_cons_zero, List.set_cons_succ])
        refine wpAnyH_ready (rs := [3]) (by kernel_rfl) (by simp) ?_
        refine AllReadyH.cons (o := ?o3) ?hi3 (fun K hK => ?_) AllReadyH.nil
        case hi3 => (simp only [List.getElem?_toArray, List.getElem?_cons_succ, List.getElem?_cons_zero]; try rfl)
        go_simp
        (go_at_call 42; refine (refLong_any _ _).mono ?_; rintro e Wr3 ⟨vr3, rfl, hor3, hkr3, hfr3⟩; have Ar3 := Lib.hid (ACC.out.still hkr3.of_drew); have Or3 := Lib.hid (And.intro hor3 (apart_new ACC.out.own hfr3)); clear hor3 hkr3 hfr3)
        go_wp2_with fail
        refine hK.out _ _ (HC2.out _ Ar3.out.keep) (fun hHeld => ?_)
        clear hK K
        (try simp only [Act.put, List.setIfInBounds_toArray, List.set_cons_zero, List.set_cons_succ])
        refine wpAnyH_ready (rs := [4]) (by kernel_rfl) (by simp) ?_
        refine AllReadyH.cons (o := ?o4) ?hi4 (fun K hK => ?_) AllReadyH.nil
        case hi4 => (simp only [List.getElem?_toArray, List.getElem?_cons_succ, List.getElem?_cons_zero]; try rfl)
        refine step_app 24 24 5 (.int .u8 0) 1 1 Tryz.underlying24 infoU8 rfl (by decide) (by decide) rfl rfl rfl rfl (Ar3.out.row (HL6.out)) (own_srcN Or3.out.1 (longB_length d) Tryz.underlying24) (by omega) ?_
        intro aor34 cpr34 Wr34 hownr34 hgrr34 hfrr34
        have Ar34 := Lib.hid (Ar3.out.app hownr34 (HL6.out).symm (longB_length d).symm rfl hgrr34 hfrr34)
        clear hownr34 hgrr34 hfrr34
        refine hK.out _ _ (HC2.out _ Ar34.out.keep) (fun hHeld => ?_)
        clear hK K
        (try simp only [Act.put, List.setIfInBounds_toArray, List.set_cons_zero, List.set_cons_succ])
        refine wpAnyH_ready (rs := [7]) (by kernel_rfl) (by simp) ?_
        refine AllReadyH.cons (o := ?o7) ?hi7 (fun K hK => ?_) AllReadyH.nil
        case hi7 => (simp only [List.getElem?_toArray, List.getElem?_cons_succ, List.getElem?_cons_zero]; try rfl)
        go_simp
        (go_at_call 41; refine (refSmall_any _ _).mono ?_; rintro e Wr347 ⟨vr347, rfl, hor347, hkr347, hfr347⟩; have Ar347 := Lib.hid (Ar34.out.still hkr347); have Or347 := Lib.hid (And.intro hor347 (apart_new Ar34.out.own hfr347)); clear hor347 hkr347 hfr347)
        go_wp2_with fail
        refine hK.out _ _ (HC2.out _ Ar347.out.keep) (fun hHeld => ?_)
        clear hK K
        (try simp only [Act.put, List.setIfInBounds_toArray, List.set_cons_zero, List.set_cons_succ])
        refine wpAnyH_ready (rs := [8]) (by kernel_rfl) (by simp) ?_
        refine AllReadyH.cons (o := ?o8) ?hi8 (fun K hK => ?_) AllReadyH.nil
        case hi8 => (simp only [List.getElem?_toArray, List.getElem?_cons_succ, List.getElem?_cons_zero]; try rfl)
        refine step_app 24 24 5 (.int .u8 0) 1 1 Tryz.underlying24 infoU8 rfl (by decide) (by decide) rfl rfl rfl rfl (Ar347.out.row (len_app (HL6.out) (longB_length d))) (own_srcN Or347.out.1 (smallB_length n) Tryz.underlying24) (by omega) ?_
        intro aor3478 cpr3478 Wr3478 hownr3478 hgrr3478 hfrr3478
        have Ar3478 := Lib.hid (Ar347.out.app hownr3478 (len_app (HL6.out) (longB_length d)).symm (smallB_length n).symm rfl hgrr3478 hfrr3478)
        clear hownr3478 hgrr3478 hfrr3478
        refine hK.out _ _ (HC2.out _ Ar3478.out.keep) (fun hHeld => ?_)
        clear hK K
        (try simp only [Act.put, List.setIfInBounds_toArray, List.set_cons_zero, List.set_cons_succ])
        refine wpAnyH_ready (rs := [11]) (by kernel_rfl) (by simp) ?_
        refine AllReadyH.cons (o := ?o11) ?hi11 (fun K hK => ?_) AllReadyH.nil
        case hi11 => (simp only [List.getElem?_toArray, List.getElem?_cons_succ, List.getElem?_cons_zero]; try rfl)
        go_simp
        (go_at_call 43; refine (refTruth_any _ _).mono ?_; rintro e Wr347811 ⟨vr347811, rfl, hor347811, hkr347811, hfr347811⟩; have Ar347811 := Lib.hid (Ar3478.out.still hkr347811); have Or347811 := Lib.hid (And.intro hor347811 (apart_new Ar3478.out.own hfr347811)); clear hor347811 hkr347811 hfr347811)
        go_wp2_with fail
        refine hK.out _ _ (HC2.out _ Ar347811.out.keep) (fun hHeld => ?_)
        clear hK K
        (try simp only [Act.put, List.setIfInBounds_toArray, List.set_cons_zero, List.set_cons_succ])
        refine wpAnyH_ready (rs := [12]) (by kernel_rfl) (by simp) ?_
        refine AllReadyH.cons (o := ?o12) ?hi12 (fun K hK => ?_) AllReadyH.nil
        case hi12 => (simp only [List.getElem?_toArray, List.getElem?_cons_succ, List.getElem?_cons_zero]; try rfl)
        refine step_app 24 24 5 (.int .u8 0) 1 1 Tryz.underlying24 infoU8 rfl (by decide) (by decide) rfl rfl rfl rfl (Ar347811.out.row (len_app (len_app (HL6.out) (longB_length d)) (smallB_length n))) (own_srcN Or347811.out.1 (truthB_length y) Tryz.underlying24) (by omega) ?_
        intro aor34781112 cpr34781112 Wr34781112 hownr34781112 hgrr34781112 hfrr34781112
        have Ar34781112 := Lib.hid (Ar347811.out.app hownr34781112 (len_app (len_app (HL6.out) (longB_length d)) (smallB_length n)).symm (truthB_length y).symm rfl hgrr34781112 hfrr34781112)
        clear hownr34781112 hgrr34781112 hfrr34781112
        refine hK.out _ _ (HC2.out _ Ar34781112.out.keep) (fun hHeld => ?_)
        clear hK K
        (try simp only [Act.put, List.setIfInBounds_toArray, List.set_cons_zero, List.set_cons_succ])
        refine wpAnyH_take (i := 13) (oi := ?o13) (v := ?v13) ?hi13 (by kernel_rfl) (by kernel_rfl) (by kernel_rfl) (fun _ _ _ h => h) (Or.inl ⟨?w13, ?y13⟩) (by assumption) ?r13
        case hi13 => (simp only [List.getElem?_toArray, List.getElem?_cons_succ, List.getElem?_cons_zero]; try rfl)
        case w13 => rfl
        case y13 => (intro w hSw; (try dsimp only at hSw); go_simp; (try with_reducible rfl))
        (try simp only [Act.put, List.setIfInBounds_toArray, List.set_cons_zero, List.set_cons_succ])
        refine wpAnyH_done (by kernel_rfl) ?_ _
        refine NoPanic.normal ?_
        go_wp2_with fail
        go_meet
        exact Ar34781112.out
      case rest =>
        rw [HP.out] at hcut
        have hln := pkB_length ⟨k, f, t, d, n, y⟩
        obtain ⟨ao, cp, hv, hsl, hbo⟩ := hcut.own.slb
        rw [hln] at hv
        subst hv
        have HS := Lib.hid (refsum_any ao cp _ wc hsl (by rw [hln]; omega))
        rw [hln] at HS
        have HA9 := Lib.hid hcut
        have hcl := crcOf_lt (pkB ⟨k, f, t, d, n, y⟩)
        obtain ⟨c, hc⟩ : ∃ c, crcOf (pkB ⟨k, f, t, d, n, y⟩) = c := ⟨_, rfl⟩
        rw [hc] at hcl HS
        have HCR := Lib.hid hc
        have HLN := Lib.hid hln
        obtain ⟨W9, rfl⟩ : ∃ W, W = wc := ⟨_, rfl⟩
        clear hcut hsl hbo hc hln HP ACC HA HL6
        go_wp2_with fail
        refine HS.out.mono ?_
        rintro e w8 ⟨rfl, hk8⟩
        have A8 := Lib.hid (HA9.out.still hk8)
        clear hk8
        have hc0 : 0 ≤ (c : Int) := by omega
        have hc1 : (c : Int) < 4294967296 := by omega
        have hlit := OwnB.lit w8 (smallB c ++ smallB ((c : Int) / 65536)) #[.int .u8 ((c : Int) % 256), .int .u8 ((c : Int) / 256 % 256), .int .u8 ((c : Int) / 65536 % 256), .int .u8 ((c : Int) / 16777216)] 4 rfl (by decide) (by
          rw [bvs_append, smallB_vals, smallB_vals]
          simp
          omega)
        have hll : (smallB c ++ smallB ((c : Int) / 65536)).length = 4 := by rw [List.length_append, smallB_length, smallB_length]
        have hsrc := own_srcN (P := Tryz.prog) hlit hll Tryz.underlying24
        have A8b := Lib.hid (A8.out.still (keep_alloc w8 (.cells #[.int .u8 ((c : Int) % 256), .int .u8 ((c : Int) / 256 % 256), .int .u8 ((c : Int) / 65536 % 256), .int .u8 ((c : Int) / 16777216)] 5 (0, 0))))
        have HLL := Lib.hid hll
        have hrow := A8b.out.row HLN.out
        clear hlit hll
        go_wp2_with (at_builtin; refine wpList_app 24 24 5 (.int .u8 0) 1 1 Tryz.underlying24 infoU8 rfl (by decide) (by decide) rfl rfl rfl rfl hrow hsrc (by omega) ?_)
        intro ao9 cp9 w9 hown9 hgr9 hfr9
        have A9 := Lib.hid (A8b.out.app hown9 HLN.out.symm HLL.out.symm rfl hgr9 (by rw [size_alloc]; exact hfr9))
        clear hown9 hgr9 hfr9 hrow hsrc
        go_wp2_with fail
        go_ret
        have hK := KA.out.trans' (KC.out.trans' A9.out.keep)
        refine ⟨_, rfl, ?_, hK, fun j hj => Nat.le_trans (Nat.le_trans KA.out.size KC.out.size) (A9.out.new j hj)⟩
        have he : wireB ⟨k, f, t, d, n, y⟩ = pkB ⟨k, f, t, d, n, y⟩ ++ (smallB c ++ smallB ((c : Int) / 65536)) := by rw [HWB.out, sealB, HCR.out, List.append_assoc]
        rw [he]
        exact A9.out.own
end Go.Proofs.YtlabhbjampkhpaaGreat
