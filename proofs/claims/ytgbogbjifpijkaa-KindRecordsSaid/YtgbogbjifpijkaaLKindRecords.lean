/- KindRecords: the law returns true and changes nothing that was there. No conditions. -/
import Derived.Test.YtgbogbjifpijkaaLaw8b
import Derived.Test.YtgbogbjifpijkaaRows
import Derived.WalkKit
import Derived.ProofKit
import Derived.OpenShut
import Derived.ShutString
import Derived.ChangeOld
import Derived.Below
namespace Go.Proofs.Ytgbogbjifpijkaa.kindRecords
open Go Go.ChangeShapes Go.WideShapes Go.ChangeAt Go.RowKit
open Go.ChangeMaps (open_string shut_string)

theorem own : ownKnob Try.prog.godebug = none := by kernel_rfl
theorem laidOut : laidOutB Try.prog = true := by kernel_rfl

theorem open_arg0 {H : Type} {enc : TypeId × Value → H} {r : Reach} {b0 : Nat} {v : Value} {d : DataW H} {p : List MemPlace} (W : World) (_base : Nat)
    (hv : Value.okWide Try.prog W r b0 38 v) (h : DataW.Trod enc Try.prog W 0 (fun _ => true) true 38 v d p) : ∃ z : RecA, v = z.val ∧ z.Ok W := open_record hv h
theorem open_arg1 {H : Type} {enc : TypeId × Value → H} {r : Reach} {b0 : Nat} {v : Value} {d : DataW H} {p : List MemPlace} (W : World) (_base : Nat)
    (hv : Value.okWide Try.prog W r b0 40 v) (h : DataW.Trod enc Try.prog W 0 (fun _ => true) true 40 v d p) : ∃ z : PackV, v = packVal z ∧ z.Ok := open_packet hv h

set_option maxHeartbeats 4000000 in
theorem walk (w : World) (z : RecA) (hz : z.Ok w) (p : PackV) (hp : p.Ok) :
    Calls Try.prog 5 #[z.val, packVal p] w fun e w' => e = .returned (.bool true) ∧ Keep NoF w w' := by
  obtain ⟨⟨k, t, i, y, ps, us⟩, a4, c4, a5, c5⟩ := z
  have HZ : Hid (RecAt w ⟨k, t, i, y, ps, us⟩ a4 c4 a5 c5) := hz
  have HP := Lib.hid hp
  obtain ⟨q0, q1, q2, q3, q4, q5⟩ := p
  unfold RecA.val recVal packVal
  simp only
  clear hz hp
  go_enter Try.func5, Try.ntmps5
  go_wp2_with fail
  refine (begun8_any _).mono ?_
  rintro e w1 ⟨rfl, hk⟩
  have h0 := heap_new w (.cells (recCells k t i y (.slice a4 ps.length c4) (.slice a5 us.length c5)) 38 (0, 0))
  have hP0 := heap_new (w.alloc (.cells (recCells k t i y (.slice a4 ps.length c4) (.slice a5 us.length c5)) 38 (0, 0))) (.cells (packCells ⟨q0, q1, q2, q3, q4, q5⟩) 40 (0, 0))
  have ka := keep_alloc (w.alloc (.cells (recCells k t i y (.slice a4 ps.length c4) (.slice a5 us.length c5)) 38 (0, 0))) (.cells (packCells ⟨q0, q1, q2, q3, q4, q5⟩) 40 (0, 0))
  have HROW : Hid (w1.heap[w.heap.size]? = some (.cells (recCells k t i y (.slice a4 ps.length c4) (.slice a5 us.length c5)) 38 (0, 0))) := row_keep h0 (ka.trans' hk)
  have HPR : Hid (w1.heap[(w.alloc (.cells (recCells k t i y (.slice a4 ps.length c4) (.slice a5 us.length c5)) 38 (0, 0))).heap.size]? = some (.cells (packCells ⟨q0, q1, q2, q3, q4, q5⟩) 40 (0, 0))) := row_keep hP0 hk
  have K1 : Hid (Keep NoF w w1) := Lib.hid ((keep_alloc w _).trans' (ka.trans' hk))
  have HRAT := Lib.hid (HZ.out.keep K1.out)
  have hsz : (w.alloc (.cells (recCells k t i y (.slice a4 ps.length c4) (.slice a5 us.length c5)) 38 (0, 0))).heap.size = w.heap.size + 1 := by simp
  rw [hsz] at HPR
  obtain ⟨B, hB⟩ : ∃ B, w.heap.size = B := ⟨_, rfl⟩
  have HBB : Hid (w.heap.size ≤ B) := Lib.hid (by omega)
  rw [hB] at HROW HPR ⊢
  clear h0 hP0 ka hk hsz hB
  have hfree := rec_free HROW.out
  obtain ⟨c0, c1, c2, c3, c4', c5'⟩ := rec_cells HROW.out
  clear hfree
  go_wp2_with fail
  refine (record8_op k t i y ps us a4 c4 a5 c5 _ HRAT.out).mono ?_
  rintro e w2 ⟨k1, t1, i1, y1, ps1, us1, b4, d4, b5, d5, rfl, hX, hk2, hf4, hf5, hl9, hl12, hpu⟩
  have hrow2 := row_keep HROW.out hk2
  clear c0 c1 c2 c3 c4' c5'
  obtain ⟨c0, c1, c2, c3, c4', c5'⟩ := rec_cells hrow2
  obtain ⟨f0, f1, f2, f3, f4, f5⟩ := rec_free hrow2
  have h6 := setRec hrow2 k1 t1 i1 y1 (.slice b4 ps1.length d4) (.slice b5 us1.length d5)
  have hlt := lt_of_heap HROW.out
  have hX6 : RecAt (((((((w2).setCell ⟨B, 0, none⟩ (.int .i64 k1)).setCell ⟨B, 1, none⟩ (.int .i64 t1)).setCell ⟨B, 2, none⟩ (.int .i64 i1)).setCell ⟨B, 3, none⟩ (.bool y1)).setCell ⟨B, 4, none⟩ (.slice b4 ps1.length d4)).setCell ⟨B, 5, none⟩ (.slice b5 us1.length d5)) ⟨k1, t1, i1, y1, ps1, us1⟩ b4 d4 b5 d5 := hX.keepZ h6.2 (fun j hj e => by have := hf4 j hj; omega) (fun j hj e => by have := hf5 j hj; omega)
  have hK6 : Keep NoF w (((((((w2).setCell ⟨B, 0, none⟩ (.int .i64 k1)).setCell ⟨B, 1, none⟩ (.int .i64 t1)).setCell ⟨B, 2, none⟩ (.int .i64 i1)).setCell ⟨B, 3, none⟩ (.bool y1)).setCell ⟨B, 4, none⟩ (.slice b4 ps1.length d4)).setCell ⟨B, 5, none⟩ (.slice b5 us1.length d5)) := (K1.out.trans' hk2).trans h6.2 (fun _ _ f => f) (fun j hj e => by have := HBB.out; omega)
  have H6 := Lib.hid h6; have HX := Lib.hid hX6; have K6 := Lib.hid hK6; have HLN := Lib.hid (And.intro hl9 (And.intro hl12 hpu))
  have K2 := Lib.hid hk2
  clear hX hk2 hf4 hf5 hrow2 h6 hX6 hK6 hl9 hl12 hpu hlt
  go_wp2_with fail
  show Code.wp _ _ _ _ (((((((w2).setCell ⟨B, 0, none⟩ (.int .i64 k1)).setCell ⟨B, 1, none⟩ (.int .i64 t1)).setCell ⟨B, 2, none⟩ (.int .i64 i1)).setCell ⟨B, 3, none⟩ (.bool y1)).setCell ⟨B, 4, none⟩ (.slice b4 ps1.length d4)).setCell ⟨B, 5, none⟩ (.slice b5 us1.length d5))
  have hrow3 := H6.out.1
  have kZ := H6.out.2
  have hX3 := HX.out
  have hK3 := K6.out
  clear H6 HX K6 c0 c1 c2 c3 c4' c5' f0 f1 f2 f3 f4 f5
  generalize (((((((w2).setCell ⟨B, 0, none⟩ (.int .i64 k1)).setCell ⟨B, 1, none⟩ (.int .i64 t1)).setCell ⟨B, 2, none⟩ (.int .i64 i1)).setCell ⟨B, 3, none⟩ (.bool y1)).setCell ⟨B, 4, none⟩ (.slice b4 ps1.length d4)).setCell ⟨B, 5, none⟩ (.slice b5 us1.length d5)) = W0 at hrow3 kZ hX3 hK3 ⊢
  have HROW3 := Lib.hid hrow3; have HX := Lib.hid hX3; have K3 := Lib.hid hK3; have KZ := Lib.hid kZ
  clear hrow3 kZ hX3 hK3
  have hpr3 : W0.heap[B + 1]? = some (.cells (packCells ⟨q0, q1, q2, q3, q4, q5⟩) 40 (0, 0)) := by
    rw [KZ.out.block (B + 1) (lt_of_heap (row_keep HPR.out K2.out)) (by omega)]; exact row_keep HPR.out K2.out
  have hc : ∀ W, Keep NoF W0 W → RecC W B k1 t1 i1 y1 (.slice b4 ps1.length d4) (.slice b5 us1.length d5) ∧ PackC W (B + 1) ⟨q0, q1, q2, q3, q4, q5⟩ := fun W hW => ⟨rec_cells (row_keep HROW3.out hW), pack_cells (row_keep hpr3 hW)⟩
  unfold RecC PackC at hc
  simp only at hc
  have HC := Lib.hid hc
  obtain ⟨⟨c0, c1, c2, c3, c4', c5'⟩, p0, p1, p2, p3, p4, p5⟩ := HC.out W0 (Keep.refl _ _)
  obtain ⟨b, hb⟩ : ∃ b, recB ⟨k1, t1, i1, y1, ps1, us1⟩ = b := ⟨_, rfl⟩
  obtain ⟨b2, hb2⟩ : ∃ b, packB ⟨q0, q1, q2, q3, q4, q5⟩ = b := ⟨_, rfl⟩
  have HKR := Lib.hid (fun W h => krecord_op k1 t1 i1 y1 ps1 us1 b4 d4 b5 d5 b hb W h)
  have HRR := Lib.hid (fun W h => rrecord_op k1 t1 i1 y1 ps1 us1 b4 d4 b5 d5 b hb W h)
  have hkp := fun W => kpacket_any ⟨q0, q1, q2, q3, q4, q5⟩ W HP.out
  have hrp := fun W => rpacket_any ⟨q0, q1, q2, q3, q4, q5⟩ W HP.out
  rw [hb2] at hkp hrp
  unfold packVal at hkp hrp
  simp only at hkp hrp
  have HKP := Lib.hid hkp; have HRP := Lib.hid hrp
  have KK0 : Hid (Keep NoF W0 W0) := Keep.refl _ _
  clear hb hb2 hkp hrp hc hpr3
  go_region_held3 (fun W' : World => (W'.cell? ⟨B, 0, none⟩ = some (.int .i64 k1) ∧ W'.cell? ⟨B, 1, none⟩ = some (.int .i64 t1) ∧ W'.cell? ⟨B, 2, none⟩ = some (.int .i64 i1) ∧ W'.cell? ⟨B, 3, none⟩ = some (.bool y1) ∧ W'.cell? ⟨B, 4, none⟩ = some (.slice b4 ps1.length d4) ∧ W'.cell? ⟨B, 5, none⟩ = some (.slice b5 us1.length d5)) ∧
      W'.cell? ⟨B + 1, 0, none⟩ = some (.int .i64 q0) ∧ W'.cell? ⟨B + 1, 1, none⟩ = some (.int .i64 q1) ∧ W'.cell? ⟨B + 1, 2, none⟩ = some (.int .i64 q2) ∧ W'.cell? ⟨B + 1, 3, none⟩ = some (.int .i64 q3) ∧ W'.cell? ⟨B + 1, 4, none⟩ = some (.int .i64 q4) ∧ W'.cell? ⟨B + 1, 5, none⟩ = some (.bool q5))
    (first | assumption | exact HC.out _ KD.out | exact HC.out _ KCC.out | exact HC.out _ KBB.out | exact HC.out _ KA.out | exact HC.out _ KK0.out.drew | go_keep)
    (first
    | (go_at_call 31; refine (HKR.out _ (HX.out.keep (Keep.refl NoF W0).drew)).mono ?_; rintro e wa ⟨rfl, hka⟩; have KA := Lib.hid (hka.of_drew : Keep NoF W0 wa); clear hka)
    | (go_at_call 32; refine (HRR.out _ (HX.out.keep KA.out)).mono ?_; rintro e wb ⟨rfl, hkb⟩; have KBB := Lib.hid (KA.out.trans' hkb); clear hkb)
    | (go_at_call 33; refine (HKP.out _).mono ?_; rintro e wc ⟨rfl, hkc⟩; have KCC := Lib.hid (KBB.out.trans' hkc); clear hkc)
    | (go_at_call 34; refine (HRP.out _).mono ?_; rintro e wd ⟨rfl, hkd⟩; have KD := Lib.hid (KCC.out.trans' hkd); clear hkd))
  all_goals
    go_wp2_with fail
    go_ret
    exact ⟨rfl, K3.out.trans' KD.out⟩

set_option linter.unusedVariables false
set_option maxRecDepth 100000 in
theorem lifted (os : Os) (started : os.Started) (H : Type) (enc : TypeId × Value → H) :
    ReturnsInHanded {} Try.checked os 5 .any (Rows.kindRecordsSpec.pre6 enc Try.prog Try.f5 Rows.kindRecordsRow.domain false) (Rows.kindRecordsSpec.post enc Try.prog Try.f5 false true false false) := by
  refine returnsInHanded_of_change (C := Try.checked) own started (by kernel_rfl) Try.func5
    (ChangeSpec.witness6 (enc := enc) (C := Try.checked) false ⟨#[], #[.agg #[.int .i64 0, .int .i64 0, .int .i64 0, .bool false, .slice none 0 0, .slice none 0 0], .agg #[.int .i64 0, .int .i64 0, .int .i64 0, .int .i64 0, .int .i64 0, .bool false]], []⟩ 8 (by kernel_rfl) (by kernel_rfl) (by kernel_rfl) (by kernel_rfl)) ?_
  intro W base args ds gs before hval0 hW hcnd _
  have hval : ∀ (j : Nat) t v, Try.f5.params[j]? = some t → args[j]? = some v → Value.okWide Try.prog W .any base t v := hval0
  have hW' := hW
  obtain ⟨p, q, hA0, hV, rfl, hfz, hnd⟩ := hW
  have hA : DataW.TrodAll enc Try.prog W 0 (fun _ => true) true Try.f5.params.toList args.toList ds p := hA0
  rw [Try.params5] at hA hval
  obtain ⟨v0, vs0, d0, ds0, p0, q0, hargs, rfl, rfl, h0, r0⟩ := trodAll_cons hA
  obtain ⟨v1, vs1, d1, ds1, p1, q1, rfl, rfl, rfl, h1, r1⟩ := trodAll_cons r0
  obtain ⟨rfl, rfl, rfl⟩ := trodAll_nil r1
  obtain rfl : args = #[v0, v1] := by cases args; simp_all
  obtain ⟨rfl, rfl⟩ := trodVars_none hV
  have k0 := h0
  have lt0 : ∀ x ∈ p0, x.block < W.heap.size := by obtain ⟨m, hm⟩ := k0; exact DataW.trod_lt m _ _ _ hm
  obtain ⟨z0, rfl, w0⟩ := open_arg0 W base (hval 0 38 v0 rfl rfl) h0
  have k1 := h1
  have lt1 : ∀ x ∈ p1, x.block < W.heap.size := by obtain ⟨m, hm⟩ := k1; exact DataW.trod_lt m _ _ _ hm
  obtain ⟨z1, rfl, w1⟩ := open_arg1 W base (hval 1 40 v1 rfl rfl) h1
  clear hA0 hval0
  refine (walk W z0 w0 z1 w1).mono fun e W' ⟨he, hk⟩ => ?_
  subst he
  have bel := Keep.below hk
  exact ⟨_, rfl, _, _, _, [], _, [], hW', trodAll_mk1 (shut_bool Try.underlying4 _), (trodAll_cons_mk (Below.trod laidOut (by kernel_rfl) (of_decide_eq_true (by kernel_rfl)) k0 bel lt0) (trodAll_cons_mk (Below.trod laidOut (by kernel_rfl) (of_decide_eq_true (by kernel_rfl)) k1 bel lt1) trodAll_mk0)), rfl, bel.frame _, fun h => by cases h⟩

theorem over : Rows.kindRecordsRow.holds Try.pinned (OpenSpec.ofChange Rows.kindRecordsSpec) :=
  OpenClaim.holds_of_wide 5 Try.f5 rfl rfl rfl rfl rfl rfl rfl ⟨rfl, rfl, rfl, rfl, rfl⟩ rfl rfl rfl rfl rfl (by kernel_rfl) Try.func5 (by kernel_rfl)
    (of_decide_eq_true (by kernel_rfl)) (by unfold Func.isWrapper; rw [if_neg (of_decide_eq_false (by kernel_rfl))]; exact ⟨rfl, rfl⟩)
    (fun os started H enc _ => lifted os started H enc)

/-- The statement. -/
theorem proved : Rows.KindRecordsSaid := over
#print axioms proved
end Go.Proofs.Ytgbogbjifpijkaa.kindRecords
