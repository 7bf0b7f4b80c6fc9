/- RecOwn: the law returns true and changes nothing that was there. No conditions. -/
import Derived.Test.YtgbogbjifpijkaaTells8
import Derived.Test.YtgbogbjifpijkaaRows
import Derived.WalkKit
import Derived.ProofKit
import Derived.OpenShut
import Derived.ShutString
import Derived.ChangeOld
import Derived.Below
namespace Go.Proofs.Ytgbogbjifpijkaa.recOwn
open Go Go.ChangeShapes Go.WideShapes Go.ChangeAt Go.RowKit
open Go.ChangeMaps (open_string shut_string)

theorem own : ownKnob Try.prog.godebug = none := by kernel_rfl
theorem laidOut : laidOutB Try.prog = true := by kernel_rfl

theorem open_arg0 {H : Type} {enc : TypeId × Value → H} {r : Reach} {b0 : Nat} {v : Value} {d : DataW H} {p : List MemPlace} (W : World) (_base : Nat)
    (hv : Value.okWide Try.prog W r b0 38 v) (h : DataW.Trod enc Try.prog W 0 (fun _ => true) true 38 v d p) : ∃ z : RecA, v = z.val ∧ z.Ok W := open_record hv h

set_option maxHeartbeats 8000000 in
theorem walk (w : World) (z : RecA) (hz : z.Ok w) :
    Calls Try.prog 9 #[z.val] w fun e w' => e = .returned (.bool true) ∧ Keep NoF w w' := by
  obtain ⟨⟨k, t, i, y, ps, us⟩, a4, c4, a5, c5⟩ := z
  have HZ : Hid (RecAt w ⟨k, t, i, y, ps, us⟩ a4 c4 a5 c5) := hz
  unfold RecA.val recVal
  simp only
  clear hz
  go_enter Try.func9, Try.ntmps9
  go_wp2_with fail
  refine (begun8_any _).mono ?_
  rintro e w1 ⟨rfl, hk⟩
  have h0 := heap_new w (.cells (recCells k t i y (.slice a4 ps.length c4) (.slice a5 us.length c5)) 38 (0, 0))
  have HROW : Hid (w1.heap[w.heap.size]? = some (.cells (recCells k t i y (.slice a4 ps.length c4) (.slice a5 us.length c5)) 38 (0, 0))) := row_keep h0 hk
  have K1 : Hid (Keep NoF w w1) := Lib.hid ((keep_alloc w _).trans' hk)
  have HRAT := Lib.hid (HZ.out.keep K1.out)
  obtain ⟨B, hB⟩ : ∃ B, w.heap.size = B := ⟨_, rfl⟩
  have HBB : Hid (w.heap.size ≤ B) := Lib.hid (by omega)
  rw [hB] at HROW ⊢
  clear h0 hk hB
  have hfree := rec_free HROW.out
  obtain ⟨c0, c1, c2, c3, c4', c5'⟩ := rec_cells HROW.out
  clear hfree
  go_wp2_with fail
  refine (record8_op k t i y ps us a4 c4 a5 c5 _ HRAT.out).mono ?_
  rintro e w2 ⟨k1, t1, i1, y1, ps1, us1, b4, d4, b5, d5, rfl, hX, hk2, hf4, hf5, hl9, hl12, hpu, ho4, ho5, hdis⟩
  have hrow2 := row_keep HROW.out hk2
  clear c0 c1 c2 c3 c4' c5'
  obtain ⟨c0, c1, c2, c3, c4', c5'⟩ := rec_cells hrow2
  obtain ⟨f0, f1, f2, f3, f4, f5⟩ := rec_free hrow2
  have h6 := setRec hrow2 k1 t1 i1 y1 (.slice b4 ps1.length d4) (.slice b5 us1.length d5)
  have hlt := lt_of_heap HROW.out
  have hX6 : RecAt (((((((w2).setCell ⟨B, 0, none⟩ (.int .i64 k1)).setCell ⟨B, 1, none⟩ (.int .i64 t1)).setCell ⟨B, 2, none⟩ (.int .i64 i1)).setCell ⟨B, 3, none⟩ (.bool y1)).setCell ⟨B, 4, none⟩ (.slice b4 ps1.length d4)).setCell ⟨B, 5, none⟩ (.slice b5 us1.length d5)) ⟨k1, t1, i1, y1, ps1, us1⟩ b4 d4 b5 d5 := hX.keepZ h6.2 (fun j hj e => by have := hf4 j hj; omega) (fun j hj e => by have := hf5 j hj; omega)
  have hO6 : OwnI (((((((w2).setCell ⟨B, 0, none⟩ (.int .i64 k1)).setCell ⟨B, 1, none⟩ (.int .i64 t1)).setCell ⟨B, 2, none⟩ (.int .i64 i1)).setCell ⟨B, 3, none⟩ (.bool y1)).setCell ⟨B, 4, none⟩ (.slice b4 ps1.length d4)).setCell ⟨B, 5, none⟩ (.slice b5 us1.length d5)) (.slice b4 ps1.length d4) ps1 := ho4.keep h6.2 (fun j hj e => by rw [own_blk] at hj; have := hf4 j hj; omega)
  have hP6 : OwnP (((((((w2).setCell ⟨B, 0, none⟩ (.int .i64 k1)).setCell ⟨B, 1, none⟩ (.int .i64 t1)).setCell ⟨B, 2, none⟩ (.int .i64 i1)).setCell ⟨B, 3, none⟩ (.bool y1)).setCell ⟨B, 4, none⟩ (.slice b4 ps1.length d4)).setCell ⟨B, 5, none⟩ (.slice b5 us1.length d5)) (.slice b5 us1.length d5) us1 := ho5.keep h6.2 (fun j hj e => by rw [own_blk] at hj; have := hf5 j hj; omega)
  have hN6 : (∀ j, blockOf b4 = some j → j ≠ B ∧ w.heap.size ≤ j) ∧ (∀ j, blockOf b5 = some j → j ≠ B ∧ w.heap.size ≤ j) := ⟨fun j hj => ⟨by have := hf4 j hj; omega, by have := hf4 j hj; have := K1.out.size; omega⟩, fun j hj => ⟨by have := hf5 j hj; omega, by have := hf5 j hj; have := K1.out.size; omega⟩⟩
  have hK6 : Keep NoF w (((((((w2).setCell ⟨B, 0, none⟩ (.int .i64 k1)).setCell ⟨B, 1, none⟩ (.int .i64 t1)).setCell ⟨B, 2, none⟩ (.int .i64 i1)).setCell ⟨B, 3, none⟩ (.bool y1)).setCell ⟨B, 4, none⟩ (.slice b4 ps1.length d4)).setCell ⟨B, 5, none⟩ (.slice b5 us1.length d5)) := (K1.out.trans' hk2).trans h6.2 (fun _ _ f => f) (fun j hj e => by have := HBB.out; omega)
  have H6 := Lib.hid h6; have HX := Lib.hid hX6; have K6 := Lib.hid hK6; have HLN := Lib.hid (And.intro hl9 (And.intro hl12 hpu)); have HN6 := Lib.hid hN6; have HDIS := Lib.hid hdis; have HO := Lib.hid hO6; have HPO := Lib.hid hP6
  have K2 := Lib.hid hk2
  clear hX hk2 hf4 hf5 hrow2 h6 hX6 hK6 hO6 hP6 hN6 ho4 ho5 hdis hl9 hl12 hpu hlt
  go_upto_region 5 with fail
  show Code.wp _ _ _ _ (((((((w2).setCell ⟨B, 0, none⟩ (.int .i64 k1)).setCell ⟨B, 1, none⟩ (.int .i64 t1)).setCell ⟨B, 2, none⟩ (.int .i64 i1)).setCell ⟨B, 3, none⟩ (.bool y1)).setCell ⟨B, 4, none⟩ (.slice b4 ps1.length d4)).setCell ⟨B, 5, none⟩ (.slice b5 us1.length d5))
  have hrow3 := H6.out.1
  have kZ := H6.out.2
  have hX3 := HX.out
  have hK3 := K6.out
  have hO3 := HO.out
  have hP3 := HPO.out
  clear H6 HX K6 HO HPO c0 c1 c2 c3 c4' c5' f0 f1 f2 f3 f4 f5
  generalize (((((((w2).setCell ⟨B, 0, none⟩ (.int .i64 k1)).setCell ⟨B, 1, none⟩ (.int .i64 t1)).setCell ⟨B, 2, none⟩ (.int .i64 i1)).setCell ⟨B, 3, none⟩ (.bool y1)).setCell ⟨B, 4, none⟩ (.slice b4 ps1.length d4)).setCell ⟨B, 5, none⟩ (.slice b5 us1.length d5)) = W0 at hrow3 kZ hX3 hK3 hO3 hP3 ⊢
  have HROW3 := Lib.hid hrow3; have HX := Lib.hid hX3; have K3 := Lib.hid hK3; have KZ := Lib.hid kZ; have HO := Lib.hid hO3; have HPO := Lib.hid hP3
  clear hrow3 kZ hX3 hK3 hO3 hP3
  obtain ⟨c0, c1, c2, c3, c4', c5'⟩ := rec_cells HROW3.out
  rcases hb : recB ⟨k1, t1, i1, y1, ps1, us1⟩ with _ | _
  · have HEN := Lib.hid (fun W h => encode_f k1 t1 i1 y1 ps1 us1 b4 d4 b5 d5 hb W h)
    have HRR := Lib.hid (fun W h => rrecord_op k1 t1 i1 y1 ps1 us1 b4 d4 b5 d5 false hb W h)
    clear hb
    go_wp2_with fail
    refine (HEN.out _ HX.out).mono ?_
    rintro e w4 ⟨rfl, hk4⟩
    have hn1 := Lib.run_eql_slice_nil (P := Try.prog) w4 24 5 none 0 0 0 0 Try.underlying24
    clear c0 c1 c2 c3 c4' c5'
    obtain ⟨c0, c1, c2, c3, c4', c5'⟩ := rec_cells (row_keep HROW3.out hk4)
    have K4 := Lib.hid hk4
    clear hk4
    go_wp2_with fail
    refine (HRR.out _ (HX.out.keep K4.out)).mono ?_
    rintro e w5 ⟨rfl, hk5⟩
    have K5 := Lib.hid hk5
    clear hk5
    go_wp2_with fail
    go_ret
    exact ⟨rfl, K3.out.trans' (K4.out.trans' K5.out)⟩
  · obtain ⟨ne, hne⟩ : ∃ n, (encB ⟨k1, t1, i1, y1, ps1, us1⟩).length = n := ⟨_, rfl⟩
    have HEN := Lib.hid (fun W h => encode_g k1 t1 i1 y1 ps1 us1 b4 d4 b5 d5 hb ne hne W h)
    have HDE := Lib.hid (fun cp g W h1 h2 => decode_t (some ⟨g, 0, none⟩) cp (encB ⟨k1, t1, i1, y1, ps1, us1⟩) ne hne k1 t1 i1 y1 ps1 us1 (dec_enc _ hb).1 (decOk_enc _ hb) W h1 h2)
    have HNE := Lib.hid hne
    clear hb hne
    go_wp2_with fail
    refine (HEN.out _ HX.out).mono ?_
    rintro e w4 ⟨g, ce, rfl, ho4, sl4, hk4, hg4, hg5⟩
    have hn1 := Lib.run_eql_slice_nil (P := Try.prog) w4 24 5 (some ⟨g, 0, none⟩) ne ce 0 0 Try.underlying24
    have K4 := Lib.hid hk4; have HO4 := Lib.hid ho4; have HSL := Lib.hid sl4; have HG := Lib.hid (And.intro hg4 hg5)
    clear hk4 ho4 sl4 hg4 hg5 c0 c1 c2 c3 c4' c5'
    go_wp2_with fail
    refine (HDE.out ce g w4 HSL.out (fun q hq => by have := HG.out.2; simp [blockOf] at hq; omega)).mono ?_
    rintro e w5 ⟨x4, e4, x5, e5, rfl, hx, hk5, hx4, hx5⟩
    have h6 := heap_new w5 (.cells (recCells k1 t1 i1 y1 (.slice x4 ps1.length e4) (.slice x5 us1.length e5)) 38 (0, 0))
    have hk6 : Keep NoF w4 (w5.alloc (.cells (recCells k1 t1 i1 y1 (.slice x4 ps1.length e4) (.slice x5 us1.length e5)) 38 (0, 0))) := hk5.alloc _
    have hX6 := hx.keep (keep_alloc w5 (.cells (recCells k1 t1 i1 y1 (.slice x4 ps1.length e4) (.slice x5 us1.length e5)) 38 (0, 0)))
    obtain ⟨X, hX⟩ : ∃ X, w5.heap.size = X := ⟨_, rfl⟩
    have HXX := Lib.hid hX
    have HGX : Hid (g < X) := Lib.hid (by have := HG.out.2; have := hk5.size; omega)
    clear hx hk5 hX
    go_upto_region 9 with fail
    rw [HXX.out]
    rw [HXX.out] at h6
    show Code.wp _ _ _ _ (w5.alloc (.cells (recCells k1 t1 i1 y1 (.slice x4 ps1.length e4) (.slice x5 us1.length e5)) 38 (0, 0)))
    generalize w5.alloc (.cells (recCells k1 t1 i1 y1 (.slice x4 ps1.length e4) (.slice x5 us1.length e5)) 38 (0, 0)) = W6 at h6 hk6 hX6 ⊢
    have HR6 := Lib.hid h6; have K6 := Lib.hid hk6; have HXA := Lib.hid hX6; have HX4 := Lib.hid hx4; have HX5 := Lib.hid hx5
    have HRB : Hid (W6.heap[B]? = some (.cells (recCells k1 t1 i1 y1 (.slice b4 ps1.length d4) (.slice b5 us1.length d5)) 38 (0, 0))) := row_keep HROW3.out (K4.out.trans' hk6)
    have HRA := Lib.hid (HX.out.keep (K4.out.trans' hk6))
    have HOW : Hid (W6.ownsRow 0 5 1 (.slice (some ⟨g, 0, none⟩) ne ce) ne (((encB ⟨k1, t1, i1, y1, ps1, us1⟩).map (fun b => (b.toNat : Int))).map (.int .u8))) := by
      have h1 : OwnB w4 (.slice (some ⟨g, 0, none⟩) ne ce) (encB ⟨k1, t1, i1, y1, ps1, us1⟩) := by rw [OwnB, HNE.out]; exact HO4.out
      have h2 := h1.keep hk6 (fun _ _ f => f)
      rw [OwnB, HNE.out] at h2
      rw [List.map_map]
      exact h2
    have hnb : g ≠ B := by have := lt_of_heap HROW3.out; have := HG.out.1; omega
    have HNB := Lib.hid hnb
    clear h6 hk6 hX6 hx4 hx5 hnb
    go_wp2_with fail
    go_loopw [27] (fun iv wr => ∃ (k : Nat) (zs : List Int), k ≤ ne ∧ iv = .int .i64 k ∧ zs.length = ne ∧ wr.ownsRow 0 5 1 (.slice (some ⟨g, 0, none⟩) ne ce) ne (zs.map (.int .u8)) ∧ Keep (fun j => j = g) W6 wr) (fun iv _ => ne - (intOf iv).toNat)
    case atStart => exact ⟨0, _, Nat.zero_le _, rfl, by rw [List.length_map]; exact HNE.out, HOW.out, Keep.refl _ _⟩
    case round =>
      obtain ⟨k, zs, hk, rfl, hzl, hO, hK⟩ := hrel
      by_cases hlt : k < ne
      · obtain ⟨zv, hzv⟩ : ∃ x, zs[k]'(by omega) = x := ⟨_, rfl⟩
        have hcd : wr.cell? ⟨g, k, none⟩ = some (.int .u8 zv) := by
          rw [hO.cellAt k (by omega), List.getElem?_map, List.getElem?_eq_getElem (by omega), hzv]; rfl
        have hfd := hO.frozenAt k
        have hst := hO.stored k (.int .u8 (bits .xor .u8 zv 255))
        rw [← List.map_set] at hst
        have hlt2 : (k : Int) < ne := by omega
        have hcap := HSL.out.1
        have hcap2 := HSL.out.2.1
        rw [HNE.out] at hcap
        unfold maxLen at hcap2
        have Hst := Lib.hid hst; have HK := Lib.hid hK; have HZL := Lib.hid hzl
        clear hst hO hK hzl hzv
        go_wp2_with fail
        go_roundw
        case rel => exact ⟨k + 1, _, by omega, by go_num, by rw [List.length_set]; exact HZL.out, Hst.out.1, HK.out.setCell (p := ⟨g, k, none⟩) (fun _ => rfl) _⟩
        case measure => simp [intOf]; omega
      · have hlt2 : ¬ (k : Int) < ne := by omega
        have hrX : wr.heap[X]? = some (.cells (recCells k1 t1 i1 y1 (.slice x4 ps1.length e4) (.slice x5 us1.length e5)) 38 (0, 0)) := by
          rw [hK.block X (lt_of_heap HR6.out) (by have := HGX.out; omega)]; exact HR6.out
        have hrB : wr.heap[B]? = some (.cells (recCells k1 t1 i1 y1 (.slice b4 ps1.length d4) (.slice b5 us1.length d5)) 38 (0, 0)) := by
          rw [hK.block B (lt_of_heap HRB.out) (by have := HNB.out; omega)]; exact HRB.out
        have hAX := HXA.out.keepZ hK (fun j hj e => by have := HX4.out j hj; have := HG.out.2; omega) (fun j hj e => by have := HX5.out j hj; have := HG.out.2; omega)
        have hAB := HRA.out.keepZ hK (fun j hj e => by have := HO.out.lt j (by rw [own_blk]; exact hj); have := HG.out.1; omega) (fun j hj e => by have := HPO.out.lt j (by rw [own_blk]; exact hj); have := HG.out.1; omega)
        have KF : Hid (Keep NoF w wr) := Lib.hid ((K3.out.trans' (K4.out.trans' K6.out)).trans hK (fun _ _ f => f) (fun j hj e => by have := HG.out.1; have := K3.out.size; omega))
        obtain ⟨c0, c1, c2, c3, c4', c5'⟩ := rec_cells hrX
        obtain ⟨f0, f1, f2, f3, f4, f5⟩ := rec_cells hrB
        have HAX := Lib.hid hAX; have HAB := Lib.hid hAB
        clear hO hK hzl hrX hrB hAX hAB hlt
        go_wp2_with fail
        refine (req_op k1 t1 i1 y1 ps1 us1 k1 t1 i1 y1 ps1 us1 x4 e4 x5 e5 b4 d4 b5 d5 true (eqRec_iff.2 rfl) _ HAX.out HAB.out).mono ?_
        rintro e w8 ⟨rfl, hk8⟩
        have K8 := Lib.hid hk8
        clear hk8
        go_wp2_with fail
        go_ret
        exact ⟨rfl, KF.out.trans' K8.out⟩

set_option linter.unusedVariables false
set_option maxRecDepth 100000 in
theorem lifted (os : Os) (started : os.Started) (H : Type) (enc : TypeId × Value → H) :
    ReturnsInHanded {} Try.checked os 9 .any (Rows.recOwnSpec.pre6 enc Try.prog Try.f9 Rows.recOwnRow.domain false) (Rows.recOwnSpec.post enc Try.prog Try.f9 false true false false) := by
  refine returnsInHanded_of_change (C := Try.checked) own started (by kernel_rfl) Try.func9
    (ChangeSpec.witness6 (enc := enc) (C := Try.checked) false ⟨#[], #[.agg #[.int .i64 0, .int .i64 0, .int .i64 0, .bool false, .slice none 0 0, .slice none 0 0]], []⟩ 8 (by kernel_rfl) (by kernel_rfl) (by kernel_rfl) (by kernel_rfl)) ?_
  intro W base args ds gs before hval0 hW hcnd _
  have hval : ∀ (j : Nat) t v, Try.f9.params[j]? = some t → args[j]? = some v → Value.okWide Try.prog W .any base t v := hval0
  have hW' := hW
  obtain ⟨p, q, hA0, hV, rfl, hfz, hnd⟩ := hW
  have hA : DataW.TrodAll enc Try.prog W 0 (fun _ => true) true Try.f9.params.toList args.toList ds p := hA0
  rw [Try.params9] at hA hval
  obtain ⟨v0, vs0, d0, ds0, p0, q0, hargs, rfl, rfl, h0, r0⟩ := trodAll_cons hA
  obtain ⟨rfl, rfl, rfl⟩ := trodAll_nil r0
  obtain rfl : args = #[v0] := by cases args; simp_all
  obtain ⟨rfl, rfl⟩ := trodVars_none hV
  have k0 := h0
  have lt0 : ∀ x ∈ p0, x.block < W.heap.size := by obtain ⟨m, hm⟩ := k0; exact DataW.trod_lt m _ _ _ hm
  obtain ⟨z0, rfl, w0⟩ := open_arg0 W base (hval 0 38 v0 rfl rfl) h0
  clear hA0 hval0
  refine (walk W z0 w0).mono fun e W' ⟨he, hk⟩ => ?_
  subst he
  have bel := Keep.below hk
  exact ⟨_, rfl, _, _, _, [], _, [], hW', trodAll_mk1 (shut_bool Try.underlying4 _), (trodAll_cons_mk (Below.trod laidOut (by kernel_rfl) (of_decide_eq_true (by kernel_rfl)) k0 bel lt0) trodAll_mk0), rfl, bel.frame _, fun h => by cases h⟩

theorem over : Rows.recOwnRow.holds Try.pinned (OpenSpec.ofChange Rows.recOwnSpec) :=
  OpenClaim.holds_of_wide 9 Try.f9 rfl rfl rfl rfl rfl rfl rfl ⟨rfl, rfl, rfl, rfl, rfl⟩ rfl rfl rfl rfl rfl (by kernel_rfl) Try.func9 (by kernel_rfl)
    (of_decide_eq_true (by kernel_rfl)) (by unfold Func.isWrapper; rw [if_neg (of_decide_eq_false (by kernel_rfl))]; exact ⟨rfl, rfl⟩)
    (fun os started H enc _ => lifted os started H enc)

/-- The statement. -/
theorem proved : Rows.RecOwnSaid := over
#print axioms proved
end Go.Proofs.Ytgbogbjifpijkaa.recOwn
