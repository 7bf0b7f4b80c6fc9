/- RecAll: the law returns true and changes nothing that was there. No conditions. -/
import Derived.Test.YtgbogbjifpijkaaTells8
import Derived.Test.YtgbogbjifpijkaaRows
import Derived.WalkKit
import Derived.ProofKit
import Derived.OpenShut
import Derived.ShutString
import Derived.ChangeOld
import Derived.Below
namespace Go.Proofs.Ytgbogbjifpijkaa.recAll
open Go Go.ChangeShapes Go.WideShapes Go.ChangeAt Go.RowKit
open Go.ChangeMaps (open_string shut_string)

theorem own : ownKnob Try.prog.godebug = none := by kernel_rfl
theorem laidOut : laidOutB Try.prog = true := by kernel_rfl

theorem open_arg0 {H : Type} {enc : TypeId × Value → H} {r : Reach} {b0 : Nat} {v : Value} {d : DataW H} {p : List MemPlace} (W : World) (_base : Nat)
    (hv : Value.okWide Try.prog W r b0 38 v) (h : DataW.Trod enc Try.prog W 0 (fun _ => true) true 38 v d p) : ∃ z : RecA, v = z.val ∧ z.Ok W := open_record hv h
theorem open_arg1 {H : Type} {enc : TypeId × Value → H} {r : Reach} {b0 : Nat} {v : Value} {d : DataW H} {p : List MemPlace} (W : World) (_base : Nat)
    (hv : Value.okWide Try.prog W r b0 38 v) (h : DataW.Trod enc Try.prog W 0 (fun _ => true) true 38 v d p) : ∃ z : RecA, v = z.val ∧ z.Ok W := open_record hv h

set_option maxHeartbeats 16000000 in
theorem walk (w : World) (z : RecA) (hz : z.Ok w) (z2 : RecA) (hz2 : z2.Ok w) :
    Calls Try.prog 7 #[z.val, z2.val] w fun e w' => e = .returned (.bool true) ∧ Keep NoF w w' := by
  obtain ⟨⟨k, t, i, y, ps, us⟩, a4, c4, a5, c5⟩ := z
  obtain ⟨⟨k', t', i', y', ps', us'⟩, a4', c4', a5', c5'⟩ := z2
  have HZ : Hid (RecAt w ⟨k, t, i, y, ps, us⟩ a4 c4 a5 c5) := hz
  have HZ2 : Hid (RecAt w ⟨k', t', i', y', ps', us'⟩ a4' c4' a5' c5') := hz2
  unfold RecA.val recVal
  simp only
  clear hz hz2
  go_enter Try.func7, Try.ntmps7
  go_wp2_with fail
  refine (begun8_any _).mono ?_
  rintro e w1 ⟨rfl, hk⟩
  have h0 := heap_new w (.cells (recCells k t i y (.slice a4 ps.length c4) (.slice a5 us.length c5)) 38 (0, 0))
  have hP0 := heap_new (w.alloc (.cells (recCells k t i y (.slice a4 ps.length c4) (.slice a5 us.length c5)) 38 (0, 0))) (.cells (recCells k' t' i' y' (.slice a4' ps'.length c4') (.slice a5' us'.length c5')) 38 (0, 0))
  have ka := keep_alloc (w.alloc (.cells (recCells k t i y (.slice a4 ps.length c4) (.slice a5 us.length c5)) 38 (0, 0))) (.cells (recCells k' t' i' y' (.slice a4' ps'.length c4') (.slice a5' us'.length c5')) 38 (0, 0))
  have HROW : Hid (w1.heap[w.heap.size]? = some (.cells (recCells k t i y (.slice a4 ps.length c4) (.slice a5 us.length c5)) 38 (0, 0))) := row_keep h0 (ka.trans' hk)
  have HROW2 : Hid (w1.heap[(w.alloc (.cells (recCells k t i y (.slice a4 ps.length c4) (.slice a5 us.length c5)) 38 (0, 0))).heap.size]? = some (.cells (recCells k' t' i' y' (.slice a4' ps'.length c4') (.slice a5' us'.length c5')) 38 (0, 0))) := row_keep hP0 hk
  have K1 : Hid (Keep NoF w w1) := Lib.hid ((keep_alloc w _).trans' (ka.trans' hk))
  have HRAT := Lib.hid (HZ.out.keep K1.out); have HRAT2 := Lib.hid (HZ2.out.keep K1.out)
  have hsz : (w.alloc (.cells (recCells k t i y (.slice a4 ps.length c4) (.slice a5 us.length c5)) 38 (0, 0))).heap.size = w.heap.size + 1 := by simp
  rw [hsz] at HROW2
  obtain ⟨B, hB⟩ : ∃ B, w.heap.size = B := ⟨_, rfl⟩
  have HBB : Hid (w.heap.size ≤ B) := Lib.hid (by omega)
  rw [hB] at HROW HROW2 ⊢
  clear h0 hP0 ka hk hsz hB
  have hc : ∀ W, Keep NoF w1 W → RecC W B k t i y (.slice a4 ps.length c4) (.slice a5 us.length c5) ∧ RecC W (B + 1) k' t' i' y' (.slice a4' ps'.length c4') (.slice a5' us'.length c5') := fun W hW => ⟨rec_cells (row_keep HROW.out hW), rec_cells (row_keep HROW2.out hW)⟩
  unfold RecC at hc
  have HC1 := Lib.hid hc
  clear hc
  obtain ⟨⟨e0, e1, e2, e3, e4, e5⟩, f0, f1, f2, f3, f4, f5⟩ := HC1.out w1 (Keep.refl _ _)
  go_upto_region 4 with fail
  go_cut [] from 14 to 17 (fun wx => ∃ (kx tx ix : Int) (yx : Bool) (psx : List Int) (usx : List PutV) (a4x : Option Addr) (c4x : Nat) (a5x : Option Addr) (c5x : Nat) (ky ty iy : Int) (yy : Bool) (psy : List Int) (usy : List PutV) (a4y : Option Addr) (c4y : Nat) (a5y : Option Addr) (c5y : Nat), wx.heap[B]? = some (.cells (recCells kx tx ix yx (.slice a4x psx.length c4x) (.slice a5x usx.length c5x)) 38 (0, 0)) ∧ wx.heap[B + 1]? = some (.cells (recCells ky ty iy yy (.slice a4y psy.length c4y) (.slice a5y usy.length c5y)) 38 (0, 0)) ∧ RecAt wx ⟨kx, tx, ix, yx, psx, usx⟩ a4x c4x a5x c5x ∧ RecAt wx ⟨ky, ty, iy, yy, psy, usy⟩ a4y c4y a5y c5y ∧ Keep NoF w wx)
  case first =>
   go_region_law (first
    | (go_simp; go_at_call_of 30 a4; refine (record8_op k t i y ps us a4 c4 a5 c5 _ (HRAT.out.keep (Keep.refl NoF w1).drew)).mono ?_; rintro e w2 ⟨kx, tx, ix, yx, psx, usx, a4x, c4x, a5x, c5x, rfl, hXx, hkx, hf4x, hf5x, hl9x, hl12x, hpux, ho4x, ho5x, hdisx⟩; have K2 : Hid (Keep NoF w1 w2) := Lib.hid hkx.of_drew; have HXx := Lib.hid hXx; have HFx : Hid ((∀ j, blockOf a4x = some j → w1.heap.size ≤ j) ∧ (∀ j, blockOf a5x = some j → w1.heap.size ≤ j)) := Lib.hid ⟨hf4x, hf5x⟩; obtain ⟨⟨e0, e1, e2, e3, e4, e5⟩, f0, f1, f2, f3, f4, f5⟩ := HC1.out w2 K2.out; clear hXx hkx hf4x hf5x hl9x hl12x hpux ho4x ho5x hdisx)
    | (go_simp; go_at_call_of 30 a4'; refine (record8_op k' t' i' y' ps' us' a4' c4' a5' c5' _ (HRAT2.out.keep K2.out)).mono ?_; rintro e w4 ⟨ky, ty, iy, yy, psy, usy, a4y, c4y, a5y, c5y, rfl, hXy, hky, hf4y, hf5y, hl9y, hl12y, hpuy, ho4y, ho5y, hdisy⟩; have K4 : Hid (Keep NoF w1 w4) := Lib.hid (K2.out.trans' hky); have HXy := Lib.hid hXy; have HXx4 := Lib.hid (HXx.out.keep hky); have HFy : Hid ((∀ j, blockOf a4y = some j → w1.heap.size ≤ j) ∧ (∀ j, blockOf a5y = some j → w1.heap.size ≤ j)) := Lib.hid ⟨fun j hj => Nat.le_trans K2.out.size (hf4y j hj), fun j hj => Nat.le_trans K2.out.size (hf5y j hj)⟩; obtain ⟨⟨e0, e1, e2, e3, e4, e5⟩, f0, f1, f2, f3, f4, f5⟩ := HC1.out w4 K4.out; have hfrx := rec_free (row_keep HROW.out K4.out); obtain ⟨g0, g1, g2, g3, g4, g5⟩ := hfrx; have hfry := rec_free (row_keep HROW2.out K4.out); obtain ⟨l0, l1, l2, l3, l4, l5⟩ := hfry; clear hXy hky hf4y hf5y hl9y hl12y hpuy ho4y ho5y hdisy))
   all_goals
     have hs1 := setRec (row_keep HROW.out K4.out) kx tx ix yx (.slice a4x psx.length c4x) (.slice a5x usx.length c5x)
     have hB2 := row_keep HROW2.out K4.out
     rw [← hs1.2.block (B + 1) (lt_of_heap hB2) (by omega)] at hB2
     have hs2 := setRec hB2 ky ty iy yy (.slice a4y psy.length c4y) (.slice a5y usy.length c5y)
     have hB1 := hs1.1
     rw [← hs2.2.block B (lt_of_heap hB1) (by omega)] at hB1
     have hlt := lt_of_heap HROW2.out
     have hRx := (HXx4.out.keepZ hs1.2 (fun j hj e => by have := HFx.out.1 j hj; omega) (fun j hj e => by have := HFx.out.2 j hj; omega)).keepZ hs2.2 (fun j hj e => by have := HFx.out.1 j hj; omega) (fun j hj e => by have := HFx.out.2 j hj; omega)
     have hRy := (HXy.out.keepZ hs1.2 (fun j hj e => by have := HFy.out.1 j hj; omega) (fun j hj e => by have := HFy.out.2 j hj; omega)).keepZ hs2.2 (fun j hj e => by have := HFy.out.1 j hj; omega) (fun j hj e => by have := HFy.out.2 j hj; omega)
     have hK3 := (((K1.out.trans' K4.out).trans hs1.2 (fun _ _ f => f) (fun j hj e => by have := HBB.out; omega)).trans hs2.2 (fun _ _ f => f) (fun j hj e => by have := HBB.out; omega) : Keep NoF w _)
     have hB3 := hs2.1
     go_wp2_with fail
     go_meet
     exact ⟨kx, tx, ix, yx, psx, usx, a4x, c4x, a5x, c5x, ky, ty, iy, yy, psy, usy, a4y, c4y, a5y, c5y, hB1, hB3, hRx, hRy, hK3⟩
  case rest =>
    obtain ⟨kx, tx, ix, yx, psx, usx, a4x, c4x, a5x, c5x, ky, ty, iy, yy, psy, usy, a4y, c4y, a5y, c5y, hB1, hB3, hRx, hRy, hK3⟩ := hcut
    clear e0 e1 e2 e3 e4 e5 f0 f1 f2 f3 f4 f5 HRAT HRAT2 HC1 HROW HROW2
    obtain ⟨W0, rfl⟩ : ∃ W, W = wc := ⟨_, rfl⟩
    have K3 := Lib.hid hK3; have HRx := Lib.hid hRx; have HRy := Lib.hid hRy; have HB1 := Lib.hid hB1; have HB3 := Lib.hid hB3
    have hc : ∀ W, Keep NoF W0 W → RecC W B kx tx ix yx (.slice a4x psx.length c4x) (.slice a5x usx.length c5x) ∧ RecC W (B + 1) ky ty iy yy (.slice a4y psy.length c4y) (.slice a5y usy.length c5y) := fun W hW => ⟨rec_cells (row_keep HB1.out hW), rec_cells (row_keep HB3.out hW)⟩
    unfold RecC at hc
    have HC := Lib.hid hc
    obtain ⟨same, hsm⟩ : ∃ b, eqRec ⟨kx, tx, ix, yx, psx, usx⟩ ⟨ky, ty, iy, yy, psy, usy⟩ = b := ⟨_, rfl⟩
    have HEQ := Lib.hid (fun W h g => req_op kx tx ix yx psx usx ky ty iy yy psy usy a4x c4x a5x c5x a4y c4y a5y c5y same hsm W h g)
    have HKE := Lib.hid (fun W h g => keq_op kx tx ix yx psx usx ky ty iy yy psy usy a4x c4x a5x c5x a4y c4y a5y c5y same hsm W h g)
    have HSM := Lib.hid hsm
    clear hc hB1 hB3 hRx hRy hK3 hsm
    obtain ⟨⟨c0, c1, c2, c3, c4, c5⟩, d0, d1, d2, d3, d4, d5⟩ := HC.out W0 (Keep.refl _ _)
    rcases hbx : recB ⟨kx, tx, ix, yx, psx, usx⟩ with _ | _ <;> rcases hby : recB ⟨ky, ty, iy, yy, psy, usy⟩ with _ | _
    · have HENx := Lib.hid (fun W h => encode_f kx tx ix yx psx usx a4x c4x a5x c5x hbx W h)
      have HENy := Lib.hid (fun W h => encode_f ky ty iy yy psy usy a4y c4y a5y c5y hby W h)
      have HRRx := Lib.hid (fun W h => rrecord_op kx tx ix yx psx usx a4x c4x a5x c5x false hbx W h)
      clear hbx hby
      go_wp2_with fail
      go_region_held3 (fun W' : World => (W'.cell? ⟨B, 0, none⟩ = some (.int .i64 kx) ∧ W'.cell? ⟨B, 1, none⟩ = some (.int .i64 tx) ∧ W'.cell? ⟨B, 2, none⟩ = some (.int .i64 ix) ∧ W'.cell? ⟨B, 3, none⟩ = some (.bool yx) ∧ W'.cell? ⟨B, 4, none⟩ = some (.slice a4x psx.length c4x) ∧ W'.cell? ⟨B, 5, none⟩ = some (.slice a5x usx.length c5x)) ∧ W'.cell? ⟨B + 1, 0, none⟩ = some (.int .i64 ky) ∧ W'.cell? ⟨B + 1, 1, none⟩ = some (.int .i64 ty) ∧ W'.cell? ⟨B + 1, 2, none⟩ = some (.int .i64 iy) ∧ W'.cell? ⟨B + 1, 3, none⟩ = some (.bool yy) ∧ W'.cell? ⟨B + 1, 4, none⟩ = some (.slice a4y psy.length c4y) ∧ W'.cell? ⟨B + 1, 5, none⟩ = some (.slice a5y usy.length c5y))
        (first | assumption | exact HC.out _ K6.out | exact HC.out _ K5.out | exact HC.out _ (Keep.refl NoF W0).drew | go_keep)
        (first
        | (go_at_call_of 35 a4x; refine (HENx.out _ (HRx.out.keep (Keep.refl NoF W0).drew)).mono ?_; rintro e w5 ⟨rfl, hkx⟩; have K5 := Lib.hid (hkx.of_drew : Keep NoF W0 w5); have L5 : Hid (Keep NoF w5 w5) := Keep.refl _ _; clear hkx)
        | (go_at_call_of 35 a4y; refine (HENy.out _ (HRy.out.keep K5.out)).mono ?_; rintro e w6 ⟨rfl, hky⟩; have K6 := Lib.hid (K5.out.trans' hky); have L6 : Hid (Keep NoF w5 w6) := Lib.hid hky; have M6 : Hid (Keep NoF w6 w6) := Keep.refl _ _; clear hky))
      all_goals
        obtain ⟨⟨c0, c1, c2, c3, c4, c5⟩, d0, d1, d2, d3, d4, d5⟩ := HC.out w6 K6.out
        go_wp2_with fail
        refine (HEQ.out w6 (HRx.out.keep K6.out) (HRy.out.keep K6.out)).mono ?_
        rintro e w7 ⟨rfl, hk7⟩
        have K7 := Lib.hid (K6.out.trans' hk7); have L7 := Lib.hid (L6.out.trans' hk7); have M7 := Lib.hid (M6.out.trans' hk7); clear hk7
        clear c0 c1 c2 c3 c4 c5 d0 d1 d2 d3 d4 d5
        obtain ⟨⟨c0, c1, c2, c3, c4, c5⟩, d0, d1, d2, d3, d4, d5⟩ := HC.out w7 K7.out
        go_wp2_with fail
        refine (HKE.out w7 (HRx.out.keep K7.out) (HRy.out.keep K7.out)).mono ?_
        rintro e w8 ⟨rfl, hk8⟩
        have K8 := Lib.hid (K7.out.trans' hk8); have L8 := Lib.hid (L7.out.trans' hk8); have M8 := Lib.hid (M7.out.trans' hk8); clear hk8
        have hss : (same != same) = false := by cases same <;> rfl
        have hq1 := Lib.run_eql_slice_nil (P := Try.prog) w8 24 5 none 0 0 0 0 Try.underlying24
        clear c0 c1 c2 c3 c4 c5 d0 d1 d2 d3 d4 d5
        obtain ⟨⟨c0, c1, c2, c3, c4, c5⟩, d0, d1, d2, d3, d4, d5⟩ := HC.out w8 K8.out
        go_wp2_with fail
        refine (HRRx.out w8 (HRx.out.keep K8.out)).mono ?_
        rintro e w9 ⟨rfl, hk9⟩
        have K9 := Lib.hid (K8.out.trans' hk9); have L9 := Lib.hid (L8.out.trans' hk9); have M9 := Lib.hid (M8.out.trans' hk9); clear hk9
        have hq2 := Lib.run_eql_slice_nil (P := Try.prog) w9 24 5 none 0 0 0 0 Try.underlying24
        clear c0 c1 c2 c3 c4 c5 d0 d1 d2 d3 d4 d5
        go_wp2_with fail
        go_ret
        exact ⟨rfl, K3.out.trans' K9.out⟩
    · have HENx := Lib.hid (fun W h => encode_f kx tx ix yx psx usx a4x c4x a5x c5x hbx W h)
      obtain ⟨py, hpy⟩ : ∃ l, encB ⟨ky, ty, iy, yy, psy, usy⟩ = l := ⟨_, rfl⟩
      obtain ⟨ny, hny⟩ : ∃ n, py.length = n := ⟨_, rfl⟩
      have heny := fun W h => encode_g ky ty iy yy psy usy a4y c4y a5y c5y hby ny (by rw [hpy]; exact hny) W h
      rw [hpy] at heny
      have HENy := Lib.hid heny
      have HNLy := Lib.hid hny
      clear hny heny
      have HRRx := Lib.hid (fun W h => rrecord_op kx tx ix yx psx usx a4x c4x a5x c5x false hbx W h)
      clear hbx hby hpy
      go_wp2_with fail
      go_region_held3 (fun W' : World => (W'.cell? ⟨B, 0, none⟩ = some (.int .i64 kx) ∧ W'.cell? ⟨B, 1, none⟩ = some (.int .i64 tx) ∧ W'.cell? ⟨B, 2, none⟩ = some (.int .i64 ix) ∧ W'.cell? ⟨B, 3, none⟩ = some (.bool yx) ∧ W'.cell? ⟨B, 4, none⟩ = some (.slice a4x psx.length c4x) ∧ W'.cell? ⟨B, 5, none⟩ = some (.slice a5x usx.length c5x)) ∧ W'.cell? ⟨B + 1, 0, none⟩ = some (.int .i64 ky) ∧ W'.cell? ⟨B + 1, 1, none⟩ = some (.int .i64 ty) ∧ W'.cell? ⟨B + 1, 2, none⟩ = some (.int .i64 iy) ∧ W'.cell? ⟨B + 1, 3, none⟩ = some (.bool yy) ∧ W'.cell? ⟨B + 1, 4, none⟩ = some (.slice a4y psy.length c4y) ∧ W'.cell? ⟨B + 1, 5, none⟩ = some (.slice a5y usy.length c5y))
        (first | assumption | exact HC.out _ K6.out | exact HC.out _ K5.out | exact HC.out _ (Keep.refl NoF W0).drew | go_keep)
        (first
        | (go_at_call_of 35 a4x; refine (HENx.out _ (HRx.out.keep (Keep.refl NoF W0).drew)).mono ?_; rintro e w5 ⟨rfl, hkx⟩; have K5 := Lib.hid (hkx.of_drew : Keep NoF W0 w5); have L5 : Hid (Keep NoF w5 w5) := Keep.refl _ _; clear hkx)
        | (go_at_call_of 35 a4y; refine (HENy.out _ (HRy.out.keep K5.out)).mono ?_; rintro e w6 ⟨gy, cey, rfl, hoy, sly, hky, hgy, hhy⟩; have K6 := Lib.hid (K5.out.trans' hky); have L6 : Hid (Keep NoF w5 w6) := Lib.hid hky; have M6 : Hid (Keep NoF w6 w6) := Keep.refl _ _; have HSy := Lib.hid (And.intro sly hhy); clear hoy sly hgy hhy; clear hky))
      all_goals
        obtain ⟨⟨c0, c1, c2, c3, c4, c5⟩, d0, d1, d2, d3, d4, d5⟩ := HC.out w6 K6.out
        go_wp2_with fail
        refine (HEQ.out w6 (HRx.out.keep K6.out) (HRy.out.keep K6.out)).mono ?_
        rintro e w7 ⟨rfl, hk7⟩
        have K7 := Lib.hid (K6.out.trans' hk7); have L7 := Lib.hid (L6.out.trans' hk7); have M7 := Lib.hid (M6.out.trans' hk7); clear hk7
        clear c0 c1 c2 c3 c4 c5 d0 d1 d2 d3 d4 d5
        obtain ⟨⟨c0, c1, c2, c3, c4, c5⟩, d0, d1, d2, d3, d4, d5⟩ := HC.out w7 K7.out
        go_wp2_with fail
        refine (HKE.out w7 (HRx.out.keep K7.out) (HRy.out.keep K7.out)).mono ?_
        rintro e w8 ⟨rfl, hk8⟩
        have K8 := Lib.hid (K7.out.trans' hk8); have L8 := Lib.hid (L7.out.trans' hk8); have M8 := Lib.hid (M7.out.trans' hk8); clear hk8
        have hss : (same != same) = false := by cases same <;> rfl
        have hq1 := Lib.run_eql_slice_nil (P := Try.prog) w8 24 5 none 0 0 0 0 Try.underlying24
        clear c0 c1 c2 c3 c4 c5 d0 d1 d2 d3 d4 d5
        obtain ⟨⟨c0, c1, c2, c3, c4, c5⟩, d0, d1, d2, d3, d4, d5⟩ := HC.out w8 K8.out
        go_wp2_with fail
        refine (HRRx.out w8 (HRx.out.keep K8.out)).mono ?_
        rintro e w9 ⟨rfl, hk9⟩
        have K9 := Lib.hid (K8.out.trans' hk9); have L9 := Lib.hid (L8.out.trans' hk9); have M9 := Lib.hid (M8.out.trans' hk9); clear hk9
        have hq2 := Lib.run_eql_slice_nil (P := Try.prog) w9 24 5 none 0 0 0 0 Try.underlying24
        clear c0 c1 c2 c3 c4 c5 d0 d1 d2 d3 d4 d5
        go_wp2_with fail
        go_ret
        exact ⟨rfl, K3.out.trans' K9.out⟩
    · obtain ⟨px, hpx⟩ : ∃ l, encB ⟨kx, tx, ix, yx, psx, usx⟩ = l := ⟨_, rfl⟩
      obtain ⟨nx, hnx⟩ : ∃ n, px.length = n := ⟨_, rfl⟩
      have henx := fun W h => encode_g kx tx ix yx psx usx a4x c4x a5x c5x hbx nx (by rw [hpx]; exact hnx) W h
      rw [hpx] at henx
      have HENx := Lib.hid henx
      have HNLx := Lib.hid hnx
      clear hnx henx
      have HENy := Lib.hid (fun W h => encode_f ky ty iy yy psy usy a4y c4y a5y c5y hby W h)
      have HRRx := Lib.hid (fun W h => rrecord_op kx tx ix yx psx usx a4x c4x a5x c5x true hbx W h)
      have HDE := Lib.hid (fun cp g W h1 h2 => decode_t (some ⟨g, 0, none⟩) cp px nx HNLx.out kx tx ix yx psx usx (by rw [← hpx]; exact (dec_enc _ hbx).1) (by rw [← hpx]; exact decOk_enc _ hbx) W h1 h2)
      have HBY := Lib.hid (fun W h => rbytes_op kx tx ix yx psx usx a4x c4x a5x c5x px hpx nx HNLx.out hbx W h)
      clear hbx hby hpx
      go_wp2_with fail
      go_region_held3 (fun W' : World => (W'.cell? ⟨B, 0, none⟩ = some (.int .i64 kx) ∧ W'.cell? ⟨B, 1, none⟩ = some (.int .i64 tx) ∧ W'.cell? ⟨B, 2, none⟩ = some (.int .i64 ix) ∧ W'.cell? ⟨B, 3, none⟩ = some (.bool yx) ∧ W'.cell? ⟨B, 4, none⟩ = some (.slice a4x psx.length c4x) ∧ W'.cell? ⟨B, 5, none⟩ = some (.slice a5x usx.length c5x)) ∧ W'.cell? ⟨B + 1, 0, none⟩ = some (.int .i64 ky) ∧ W'.cell? ⟨B + 1, 1, none⟩ = some (.int .i64 ty) ∧ W'.cell? ⟨B + 1, 2, none⟩ = some (.int .i64 iy) ∧ W'.cell? ⟨B + 1, 3, none⟩ = some (.bool yy) ∧ W'.cell? ⟨B + 1, 4, none⟩ = some (.slice a4y psy.length c4y) ∧ W'.cell? ⟨B + 1, 5, none⟩ = some (.slice a5y usy.length c5y))
        (first | assumption | exact HC.out _ K6.out | exact HC.out _ K5.out | exact HC.out _ (Keep.refl NoF W0).drew | go_keep)
        (first
        | (go_at_call_of 35 a4x; refine (HENx.out _ (HRx.out.keep (Keep.refl NoF W0).drew)).mono ?_; rintro e w5 ⟨gx, cex, rfl, hox, slx, hkx, hgx, hhx⟩; have K5 := Lib.hid (hkx.of_drew : Keep NoF W0 w5); have L5 : Hid (Keep NoF w5 w5) := Keep.refl _ _; have HSx := Lib.hid (And.intro slx hhx); clear hox slx hgx hhx; clear hkx)
        | (go_at_call_of 35 a4y; refine (HENy.out _ (HRy.out.keep K5.out)).mono ?_; rintro e w6 ⟨rfl, hky⟩; have K6 := Lib.hid (K5.out.trans' hky); have L6 : Hid (Keep NoF w5 w6) := Lib.hid hky; have M6 : Hid (Keep NoF w6 w6) := Keep.refl _ _; clear hky))
      all_goals
        obtain ⟨⟨c0, c1, c2, c3, c4, c5⟩, d0, d1, d2, d3, d4, d5⟩ := HC.out w6 K6.out
        go_wp2_with fail
        refine (HEQ.out w6 (HRx.out.keep K6.out) (HRy.out.keep K6.out)).mono ?_
        rintro e w7 ⟨rfl, hk7⟩
        have K7 := Lib.hid (K6.out.trans' hk7); have L7 := Lib.hid (L6.out.trans' hk7); have M7 := Lib.hid (M6.out.trans' hk7); clear hk7
        clear c0 c1 c2 c3 c4 c5 d0 d1 d2 d3 d4 d5
        obtain ⟨⟨c0, c1, c2, c3, c4, c5⟩, d0, d1, d2, d3, d4, d5⟩ := HC.out w7 K7.out
        go_wp2_with fail
        refine (HKE.out w7 (HRx.out.keep K7.out) (HRy.out.keep K7.out)).mono ?_
        rintro e w8 ⟨rfl, hk8⟩
        have K8 := Lib.hid (K7.out.trans' hk8); have L8 := Lib.hid (L7.out.trans' hk8); have M8 := Lib.hid (M7.out.trans' hk8); clear hk8
        have hss : (same != same) = false := by cases same <;> rfl
        have hq1 := Lib.run_eql_slice_nil (P := Try.prog) w8 24 5 (some ⟨gx, 0, none⟩) nx cex 0 0 Try.underlying24
        clear c0 c1 c2 c3 c4 c5 d0 d1 d2 d3 d4 d5
        obtain ⟨⟨c0, c1, c2, c3, c4, c5⟩, d0, d1, d2, d3, d4, d5⟩ := HC.out w8 K8.out
        go_wp2_with fail
        refine (HRRx.out w8 (HRx.out.keep K8.out)).mono ?_
        rintro e w9 ⟨rfl, hk9⟩
        have K9 := Lib.hid (K8.out.trans' hk9); have L9 := Lib.hid (L8.out.trans' hk9); have M9 := Lib.hid (M8.out.trans' hk9); clear hk9
        have hq2 := Lib.run_eql_slice_nil (P := Try.prog) w9 24 5 (some ⟨gx, 0, none⟩) nx cex 0 0 Try.underlying24
        clear c0 c1 c2 c3 c4 c5 d0 d1 d2 d3 d4 d5
        have HSX : Hid (∀ W, Keep NoF w9 W → SlB W (some ⟨gx, 0, none⟩) cex px) := fun W hW => HSx.out.1.keep (L9.out.trans' hW) (fun _ _ f => f)
        go_wp2_with fail
        refine (HDE.out cex gx w9 (HSX.out w9 (Keep.refl _ _)) (fun q hq => by have h1 := HSx.out.2; have h2 := L9.out.size; simp [blockOf] at hq; omega)).mono ?_
        rintro e wd ⟨a4d, c4d, a5d, c5d, rfl, hD, hkd, _, _⟩
        have h6 := heap_new wd (.cells (recCells kx tx ix yx (.slice a4d psx.length c4d) (.slice a5d usx.length c5d)) 38 (0, 0))
        have hk6 : Keep NoF w9 (wd.alloc (.cells (recCells kx tx ix yx (.slice a4d psx.length c4d) (.slice a5d usx.length c5d)) 38 (0, 0))) := hkd.alloc _
        have hD6 := hD.keep (keep_alloc wd (.cells (recCells kx tx ix yx (.slice a4d psx.length c4d) (.slice a5d usx.length c5d)) 38 (0, 0)))
        obtain ⟨X, hX⟩ : ∃ X, wd.heap.size = X := ⟨_, rfl⟩
        have HXX := Lib.hid hX
        clear hD hkd hX hq1 hq2
        go_upto_region 12 with fail
        rw [HXX.out]
        rw [HXX.out] at h6
        show Code.wp _ _ _ _ (wd.alloc (.cells (recCells kx tx ix yx (.slice a4d psx.length c4d) (.slice a5d usx.length c5d)) 38 (0, 0)))
        generalize wd.alloc (.cells (recCells kx tx ix yx (.slice a4d psx.length c4d) (.slice a5d usx.length c5d)) 38 (0, 0)) = WD at h6 hk6 hD6 ⊢
        have K10 := Lib.hid (K9.out.trans' hk6); have N10 := Lib.hid hk6; have HD := Lib.hid hD6
        have hcx : ∀ W, Keep NoF WD W → RecC W X kx tx ix yx (.slice a4d psx.length c4d) (.slice a5d usx.length c5d) := fun W hW => rec_cells (row_keep h6 hW)
        unfold RecC at hcx
        have HCX := Lib.hid hcx
        have HCV : Hid (∀ W, Keep NoF WD W → (convert 24 9 (.slice (some ⟨gx, 0, none⟩) nx cex)).run Try.prog W = .ok (.string (bstr px)) W) := fun W hW => conv_slb (HSX.out W (N10.out.trans' hW)) HNLx.out
        have hcb : ∀ W, Keep NoF WD W → RecC W B kx tx ix yx (.slice a4x psx.length c4x) (.slice a5x usx.length c5x) ∧ RecC W X kx tx ix yx (.slice a4d psx.length c4d) (.slice a5d usx.length c5d) := fun W hW => ⟨(HC.out W (K10.out.trans' hW)).1, HCX.out W hW⟩
        unfold RecC at hcb
        have HCB := Lib.hid hcb
        clear h6 hk6 hD6 hcx hcb
        have hv0 := HCV.out WD.drew (Keep.refl NoF WD).drew
        have hnqA : ∀ W, (binOp .eql 24 (.slice none 0 0) (.slice none 0 0)).run Try.prog W = .ok (.bool true) W := fun W => Lib.run_eql_slice_nil (P := Try.prog) W 24 5 none 0 0 0 0 Try.underlying24
        clear HEQ HKE HSM HRRx HDE HRy HB1 HB3 HC HCX HSX HSx HZ HZ2 HBB K1 K5 K6 K7 K8 L5 L6 L7 L8 L9 M6 M7 M8 M9 N10 HXX hss HENx HENy K9
        refine wp_region_noPanic ?_
        refine wp_region_held_drew (S := (fun W' : World => ((W'.cell? ⟨B, 0, none⟩ = some (.int .i64 kx) ∧ W'.cell? ⟨B, 1, none⟩ = some (.int .i64 tx) ∧ W'.cell? ⟨B, 2, none⟩ = some (.int .i64 ix) ∧ W'.cell? ⟨B, 3, none⟩ = some (.bool yx) ∧ W'.cell? ⟨B, 4, none⟩ = some (.slice a4x psx.length c4x) ∧ W'.cell? ⟨B, 5, none⟩ = some (.slice a5x usx.length c5x)) ∧ W'.cell? ⟨X, 0, none⟩ = some (.int .i64 kx) ∧ W'.cell? ⟨X, 1, none⟩ = some (.int .i64 tx) ∧ W'.cell? ⟨X, 2, none⟩ = some (.int .i64 ix) ∧ W'.cell? ⟨X, 3, none⟩ = some (.bool yx) ∧ W'.cell? ⟨X, 4, none⟩ = some (.slice a4d psx.length c4d) ∧ W'.cell? ⟨X, 5, none⟩ = some (.slice a5d usx.length c5d)) ∧ (convert 24 9 (.slice (some ⟨gx, 0, none⟩) nx cex)).run Try.prog W' = .ok (.string (bstr px)) W')) (by kernel_rfl) (⟨HCB.out _ (Keep.refl NoF WD).drew, HCV.out _ (Keep.refl NoF WD).drew⟩) (fun hHeld => ?_)
        refine wpAnyH_take (i := 0) (oi := ?oA0) (v := ?vA0) ?hiA0 (by kernel_rfl) (by kernel_rfl) (by kernel_rfl) (fun _ _ _ h => h) (Or.inl ⟨?wA0, ?yA0⟩) (by assumption) ?rA0
        case hiA0 => (simp only [List.getElem?_toArray, List.getElem?_cons_zero]; try rfl)
        case wA0 => rfl
        case yA0 => (intro w hSw; (try dsimp only at hSw); go_simp; (try with_reducible rfl))
        (try simp only [Act.put, List.setIfInBounds_toArray, List.set_cons_zero, List.set_cons_succ])
        refine wpAnyH_take (i := 1) (oi := ?oA1) (v := ?vA1) ?hiA1 (by kernel_rfl) (by kernel_rfl) (by kernel_rfl) (fun _ _ _ h => h) (Or.inl ⟨?wA1, ?yA1⟩) (by assumption) ?rA1
        case hiA1 => (simp only [List.getElem?_toArray, List.getElem?_cons_succ, List.getElem?_cons_zero]; try rfl)
        case wA1 => rfl
        case yA1 => (intro w hSw; (try dsimp only at hSw); go_simp; (try with_reducible rfl))
        (try simp only [Act.put, List.setIfInBounds_toArray, List.set_cons_zero, List.set_cons_succ])
        refine wpAnyH_take (i := 2) (oi := ?oA2) (v := ?vA2) ?hiA2 (by kernel_rfl) (by kernel_rfl) (by kernel_rfl) (fun _ _ _ h => h) (Or.inl ⟨?wA2, ?yA2⟩) (by assumption) ?rA2
        case hiA2 => (simp only [List.getElem?_toArray, List.getElem?_cons_succ, List.getElem?_cons_zero]; try rfl)
        case wA2 => rfl
        case yA2 => (intro w hSw; (try dsimp only at hSw); go_simp; (try with_reducible rfl))
        (try simp only [Act.put, List.setIfInBounds_toArray, List.set_cons_zero, List.set_cons_succ])
        refine wpAnyH_ready (rs := [3]) (by kernel_rfl) (by simp) ?_
        refine AllReadyH.cons (o := ?oA3) ?hiA3 (fun K hK => ?_) AllReadyH.nil
        case hiA3 => (simp only [List.getElem?_toArray, List.getElem?_cons_succ, List.getElem?_cons_zero]; try rfl)
        go_simp
        (go_at_call 39; refine (HBY.out _ (HRx.out.keep K10.out.drew)).mono ?_; rintro e wb ⟨av, cv, rfl, slv, hkb⟩; have KB := Lib.hid (hkb.of_drew : Keep NoF WD wb); have hvc := conv_slb slv HNLx.out; clear hkb slv)
        go_wp2_with fail
        refine hK.out _ _ (⟨HCB.out _ KB.out, HCV.out _ KB.out⟩) (fun hHeld => ?_)
        clear hK K
        (try simp only [Act.put, List.setIfInBounds_toArray, List.set_cons_zero, List.set_cons_succ])
        refine wpAnyH_ready (rs := [4]) (by kernel_rfl) (by simp) ?_
        refine AllReadyH.cons (o := ?oA4) ?hiA4 (fun K hK => ?_) AllReadyH.nil
        case hiA4 => (simp only [List.getElem?_toArray, List.getElem?_cons_succ, List.getElem?_cons_zero]; try rfl)
        go_simp
        refine hK.out _ _ (⟨HCB.out _ KB.out, HCV.out _ KB.out⟩) (fun hHeld => ?_)
        clear hK K
        (try simp only [Act.put, List.setIfInBounds_toArray, List.set_cons_zero, List.set_cons_succ])
        refine wpAnyH_take (i := 5) (oi := ?oA5) (v := ?vA5) ?hiA5 (by kernel_rfl) (by kernel_rfl) (by kernel_rfl) (fun _ _ _ h => h) (Or.inl ⟨?wA5, ?yA5⟩) (by assumption) ?rA5
        case hiA5 => (simp only [List.getElem?_toArray, List.getElem?_cons_succ, List.getElem?_cons_zero]; try rfl)
        case wA5 => rfl
        case yA5 => (intro w hSw; (try dsimp only at hSw); go_simp; (try with_reducible rfl))
        (try simp only [Act.put, List.setIfInBounds_toArray, List.set_cons_zero, List.set_cons_succ])
        refine wpAnyH_take (i := 6) (oi := ?oA6) (v := ?vA6) ?hiA6 (by kernel_rfl) (by kernel_rfl) (by kernel_rfl) (fun _ _ _ h => h) (Or.inl ⟨?wA6, ?yA6⟩) (by assumption) ?rA6
        case hiA6 => (simp only [List.getElem?_toArray, List.getElem?_cons_succ, List.getElem?_cons_zero]; try rfl)
        case wA6 => rfl
        case yA6 => (intro w hSw; (try dsimp only at hSw); go_simp; (try with_reducible rfl))
        (try simp only [Act.put, List.setIfInBounds_toArray, List.set_cons_zero, List.set_cons_succ])
        refine wpAnyH_take (i := 7) (oi := ?oA7) (v := ?vA7) ?hiA7 (by kernel_rfl) (by kernel_rfl) (by kernel_rfl) (fun _ _ _ h => h) (Or.inl ⟨?wA7, ?yA7⟩) (by assumption) ?rA7
        case hiA7 => (simp only [List.getElem?_toArray, List.getElem?_cons_succ, List.getElem?_cons_zero]; try rfl)
        case wA7 => rfl
        case yA7 => (intro w hSw; (try dsimp only at hSw); go_simp; (try with_reducible rfl))
        (try simp only [Act.put, List.setIfInBounds_toArray, List.set_cons_zero, List.set_cons_succ])
        refine wpAnyH_take (i := 8) (oi := ?oA8) (v := ?vA8) ?hiA8 (by kernel_rfl) (by kernel_rfl) (by kernel_rfl) (fun _ _ _ h => h) (Or.inl ⟨?wA8, ?yA8⟩) (by assumption) ?rA8
        case hiA8 => (simp only [List.getElem?_toArray, List.getElem?_cons_succ, List.getElem?_cons_zero]; try rfl)
        case wA8 => rfl
        case yA8 => (intro w hSw; (try dsimp only at hSw); go_simp; (try with_reducible rfl))
        (try simp only [Act.put, List.setIfInBounds_toArray, List.set_cons_zero, List.set_cons_succ])
        refine wpAnyH_take (i := 9) (oi := ?oA9) (v := ?vA9) ?hiA9 (by kernel_rfl) (by kernel_rfl) (by kernel_rfl) (fun _ _ _ h => h) (Or.inl ⟨?wA9, ?yA9⟩) (by assumption) ?rA9
        case hiA9 => (simp only [List.getElem?_toArray, List.getElem?_cons_succ, List.getElem?_cons_zero]; try rfl)
        case wA9 => rfl
        case yA9 => (intro w hSw; (try dsimp only at hSw); go_simp; (try with_reducible rfl))
        (try simp only [Act.put, List.setIfInBounds_toArray, List.set_cons_zero, List.set_cons_succ])
        refine wpAnyH_take (i := 10) (oi := ?oA10) (v := ?vA10) ?hiA10 (by kernel_rfl) (by kernel_rfl) (by kernel_rfl) (fun _ _ _ h => h) (Or.inl ⟨?wA10, ?yA10⟩) (by assumption) ?rA10
        case hiA10 => (simp only [List.getElem?_toArray, List.getElem?_cons_succ, List.getElem?_cons_zero]; try rfl)
        case wA10 => rfl
        case yA10 => (intro w hSw; (try dsimp only at hSw); go_simp; (try with_reducible rfl))
        (try simp only [Act.put, List.setIfInBounds_toArray, List.set_cons_zero, List.set_cons_succ])
        refine wpAnyH_take (i := 11) (oi := ?oA11) (v := ?vA11) ?hiA11 (by kernel_rfl) (by kernel_rfl) (by kernel_rfl) (fun _ _ _ h => h) (Or.inl ⟨?wA11, ?yA11⟩) (by assumption) ?rA11
        case hiA11 => (simp only [List.getElem?_toArray, List.getElem?_cons_succ, List.getElem?_cons_zero]; try rfl)
        case wA11 => rfl
        case yA11 => (intro w hSw; (try dsimp only at hSw); go_simp; (try with_reducible rfl))
        (try simp only [Act.put, List.setIfInBounds_toArray, List.set_cons_zero, List.set_cons_succ])
        refine wpAnyH_take (i := 12) (oi := ?oA12) (v := ?vA12) ?hiA12 (by kernel_rfl) (by kernel_rfl) (by kernel_rfl) (fun _ _ _ h => h) (Or.inl ⟨?wA12, ?yA12⟩) (by assumption) ?rA12
        case hiA12 => (simp only [List.getElem?_toArray, List.getElem?_cons_succ, List.getElem?_cons_zero]; try rfl)
        case wA12 => rfl
        case yA12 => (intro w hSw; (try dsimp only at hSw); go_simp; (try with_reducible rfl))
        (try simp only [Act.put, List.setIfInBounds_toArray, List.set_cons_zero, List.set_cons_succ])
        refine wpAnyH_ready (rs := [13]) (by kernel_rfl) (by simp) ?_
        refine AllReadyH.cons (o := ?oA13) ?hiA13 (fun K hK => ?_) AllReadyH.nil
        case hiA13 => (simp only [List.getElem?_toArray, List.getElem?_cons_succ, List.getElem?_cons_zero]; try rfl)
        go_simp
        (go_at_call 36; refine (req_op kx tx ix yx psx usx kx tx ix yx psx usx a4d c4d a5d c5d a4x c4x a5x c5x true (eqRec_iff.2 rfl) _ (HD.out.keep KB.out) (HRx.out.keep (K10.out.trans' KB.out))).mono ?_; rintro e wc ⟨rfl, hkc⟩; have KC := Lib.hid (KB.out.trans' hkc); clear hkc)
        go_wp2_with fail
        refine hK.out _ _ (⟨HCB.out _ KC.out, HCV.out _ KC.out⟩) (fun hHeld => ?_)
        clear hK K
        (try simp only [Act.put, List.setIfInBounds_toArray, List.set_cons_zero, List.set_cons_succ])
        refine wpAnyH_take (i := 14) (oi := ?oA14) (v := ?vA14) ?hiA14 (by kernel_rfl) (by kernel_rfl) (by kernel_rfl) (fun _ _ _ h => h) (Or.inl ⟨?wA14, ?yA14⟩) (by assumption) ?rA14
        case hiA14 => (simp only [List.getElem?_toArray, List.getElem?_cons_succ, List.getElem?_cons_zero]; try rfl)
        case wA14 => rfl
        case yA14 => (intro w hSw; (try dsimp only at hSw); go_simp; (try with_reducible rfl))
        (try simp only [Act.put, List.setIfInBounds_toArray, List.set_cons_zero, List.set_cons_succ])
        refine wpAnyH_take (i := 15) (oi := ?oA15) (v := ?vA15) ?hiA15 (by kernel_rfl) (by kernel_rfl) (by kernel_rfl) (fun _ _ _ h => h) (Or.inl ⟨?wA15, ?yA15⟩) (by assumption) ?rA15
        case hiA15 => (simp only [List.getElem?_toArray, List.getElem?_cons_succ, List.getElem?_cons_zero]; try rfl)
        case wA15 => rfl
        case yA15 => (intro w hSw; (try dsimp only at hSw); go_simp; (try with_reducible rfl))
        (try simp only [Act.put, List.setIfInBounds_toArray, List.set_cons_zero, List.set_cons_succ])
        refine wpAnyH_take (i := 16) (oi := ?oA16) (v := ?vA16) ?hiA16 (by kernel_rfl) (by kernel_rfl) (by kernel_rfl) (fun _ _ _ h => h) (Or.inl ⟨?wA16, ?yA16⟩) (by assumption) ?rA16
        case hiA16 => (simp only [List.getElem?_toArray, List.getElem?_cons_succ, List.getElem?_cons_zero]; try rfl)
        case wA16 => rfl
        case yA16 => (intro w hSw; (try dsimp only at hSw); go_simp; (try with_reducible rfl))
        (try simp only [Act.put, List.setIfInBounds_toArray, List.set_cons_zero, List.set_cons_succ])
        refine wpAnyH_take (i := 17) (oi := ?oA17) (v := ?vA17) ?hiA17 (by kernel_rfl) (by kernel_rfl) (by kernel_rfl) (fun _ _ _ h => h) (Or.inl ⟨?wA17, ?yA17⟩) (by assumption) ?rA17
        case hiA17 => (simp only [List.getElem?_toArray, List.getElem?_cons_succ, List.getElem?_cons_zero]; try rfl)
        case wA17 => rfl
        case yA17 => (intro w hSw; (try dsimp only at hSw); go_simp; (try with_reducible rfl))
        (try simp only [Act.put, List.setIfInBounds_toArray, List.set_cons_zero, List.set_cons_succ])
        refine wpAnyH_take (i := 18) (oi := ?oA18) (v := ?vA18) ?hiA18 (by kernel_rfl) (by kernel_rfl) (by kernel_rfl) (fun _ _ _ h => h) (Or.inl ⟨?wA18, ?yA18⟩) (by assumption) ?rA18
        case hiA18 => (simp only [List.getElem?_toArray, List.getElem?_cons_succ, List.getElem?_cons_zero]; try rfl)
        case wA18 => rfl
        case yA18 => (intro w hSw; (try dsimp only at hSw); go_simp; (try with_reducible rfl))
        (try simp only [Act.put, List.setIfInBounds_toArray, List.set_cons_zero, List.set_cons_succ])
        refine wpAnyH_take (i := 19) (oi := ?oA19) (v := undef) ?hiA19 (by kernel_rfl) (by kernel_rfl) (by kernel_rfl) (fun _ _ _ h => h) (Or.inr ⟨?wA19, rfl⟩) (by assumption) ?rA19
        case hiA19 => (simp only [List.getElem?_toArray, List.getElem?_cons_succ, List.getElem?_cons_zero]; try rfl)
        case wA19 => rfl
        (try simp only [Act.put, List.setIfInBounds_toArray, List.set_cons_zero, List.set_cons_succ])
        refine wpAnyH_take (i := 20) (oi := ?oA20) (v := undef) ?hiA20 (by kernel_rfl) (by kernel_rfl) (by kernel_rfl) (fun _ _ _ h => h) (Or.inr ⟨?wA20, rfl⟩) (by assumption) ?rA20
        case hiA20 => (simp only [List.getElem?_toArray, List.getElem?_cons_succ, List.getElem?_cons_zero]; try rfl)
        case wA20 => rfl
        (try simp only [Act.put, List.setIfInBounds_toArray, List.set_cons_zero, List.set_cons_succ])
        refine wpAnyH_take (i := 21) (oi := ?oA21) (v := undef) ?hiA21 (by kernel_rfl) (by kernel_rfl) (by kernel_rfl) (fun _ _ _ h => h) (Or.inr ⟨?wA21, rfl⟩) (by assumption) ?rA21
        case hiA21 => (simp only [List.getElem?_toArray, List.getElem?_cons_succ, List.getElem?_cons_zero]; try rfl)
        case wA21 => rfl
        (try simp only [Act.put, List.setIfInBounds_toArray, List.set_cons_zero, List.set_cons_succ])
        refine wpAnyH_take (i := 22) (oi := ?oA22) (v := undef) ?hiA22 (by kernel_rfl) (by kernel_rfl) (by kernel_rfl) (fun _ _ _ h => h) (Or.inr ⟨?wA22, rfl⟩) (by assumption) ?rA22
        case hiA22 => (simp only [List.getElem?_toArray, List.getElem?_cons_succ, List.getElem?_cons_zero]; try rfl)
        case wA22 => rfl
        (try simp only [Act.put, List.setIfInBounds_toArray, List.set_cons_zero, List.set_cons_succ])
        refine wpAnyH_take (i := 23) (oi := ?oA23) (v := undef) ?hiA23 (by kernel_rfl) (by kernel_rfl) (by kernel_rfl) (fun _ _ _ h => h) (Or.inr ⟨?wA23, rfl⟩) (by assumption) ?rA23
        case hiA23 => (simp only [List.getElem?_toArray, List.getElem?_cons_succ, List.getElem?_cons_zero]; try rfl)
        case wA23 => rfl
        (try simp only [Act.put, List.setIfInBounds_toArray, List.set_cons_zero, List.set_cons_succ])
        refine wpAnyH_take (i := 24) (oi := ?oA24) (v := undef) ?hiA24 (by kernel_rfl) (by kernel_rfl) (by kernel_rfl) (fun _ _ _ h => h) (Or.inr ⟨?wA24, rfl⟩) (by assumption) ?rA24
        case hiA24 => (simp only [List.getElem?_toArray, List.getElem?_cons_succ, List.getElem?_cons_zero]; try rfl)
        case wA24 => rfl
        (try simp only [Act.put, List.setIfInBounds_toArray, List.set_cons_zero, List.set_cons_succ])
        refine wpAnyH_take (i := 25) (oi := ?oA25) (v := undef) ?hiA25 (by kernel_rfl) (by kernel_rfl) (by kernel_rfl) (fun _ _ _ h => h) (Or.inr ⟨?wA25, rfl⟩) (by assumption) ?rA25
        case hiA25 => (simp only [List.getElem?_toArray, List.getElem?_cons_succ, List.getElem?_cons_zero]; try rfl)
        case wA25 => rfl
        (try simp only [Act.put, List.setIfInBounds_toArray, List.set_cons_zero, List.set_cons_succ])
        refine wpAnyH_take (i := 26) (oi := ?oA26) (v := ?vA26) ?hiA26 (by kernel_rfl) (by kernel_rfl) (by kernel_rfl) (fun _ _ _ h => h) (Or.inl ⟨?wA26, ?yA26⟩) (by assumption) ?rA26
        case hiA26 => (simp only [List.getElem?_toArray, List.getElem?_cons_succ, List.getElem?_cons_zero]; try rfl)
        case wA26 => rfl
        case yA26 => (intro w hSw; (try dsimp only at hSw); go_simp; (try with_reducible rfl))
        (try simp only [Act.put, List.setIfInBounds_toArray, List.set_cons_zero, List.set_cons_succ])
        refine wpAnyH_take (i := 27) (oi := ?oA27) (v := ?vA27) ?hiA27 (by kernel_rfl) (by kernel_rfl) (by kernel_rfl) (fun _ _ _ h => h) (Or.inl ⟨?wA27, ?yA27⟩) (by assumption) ?rA27
        case hiA27 => (simp only [List.getElem?_toArray, List.getElem?_cons_succ, List.getElem?_cons_zero]; try rfl)
        case wA27 => rfl
        case yA27 => (intro w hSw; (try dsimp only at hSw); go_simp; (try with_reducible rfl))
        (try simp only [Act.put, List.setIfInBounds_toArray, List.set_cons_zero, List.set_cons_succ])
        refine wpAnyH_take (i := 28) (oi := ?oA28) (v := ?vA28) ?hiA28 (by kernel_rfl) (by kernel_rfl) (by kernel_rfl) (fun _ _ _ h => h) (Or.inl ⟨?wA28, ?yA28⟩) (by assumption) ?rA28
        case hiA28 => (simp only [List.getElem?_toArray, List.getElem?_cons_succ, List.getElem?_cons_zero]; try rfl)
        case wA28 => rfl
        case yA28 => (intro w hSw; (try dsimp only at hSw); go_simp; (try with_reducible rfl))
        (try simp only [Act.put, List.setIfInBounds_toArray, List.set_cons_zero, List.set_cons_succ])
        refine wpAnyH_done (by kernel_rfl) ?_ _
        refine NoPanic.normal ?_
        all_goals
          go_wp2_with fail
          go_ret
          exact ⟨rfl, K3.out.trans' (K10.out.trans' KC.out)⟩
    · obtain ⟨px, hpx⟩ : ∃ l, encB ⟨kx, tx, ix, yx, psx, usx⟩ = l := ⟨_, rfl⟩
      obtain ⟨nx, hnx⟩ : ∃ n, px.length = n := ⟨_, rfl⟩
      have henx := fun W h => encode_g kx tx ix yx psx usx a4x c4x a5x c5x hbx nx (by rw [hpx]; exact hnx) W h
      rw [hpx] at henx
      have HENx := Lib.hid henx
      have HNLx := Lib.hid hnx
      clear hnx henx
      obtain ⟨py, hpy⟩ : ∃ l, encB ⟨ky, ty, iy, yy, psy, usy⟩ = l := ⟨_, rfl⟩
      obtain ⟨ny, hny⟩ : ∃ n, py.length = n := ⟨_, rfl⟩
      have heny := fun W h => encode_g ky ty iy yy psy usy a4y c4y a5y c5y hby ny (by rw [hpy]; exact hny) W h
      rw [hpy] at heny
      have HENy := Lib.hid heny
      have HNLy := Lib.hid hny
      clear hny heny
      have HRRx := Lib.hid (fun W h => rrecord_op kx tx ix yx psx usx a4x c4x a5x c5x true hbx W h)
      have HDE := Lib.hid (fun cp g W h1 h2 => decode_t (some ⟨g, 0, none⟩) cp px nx HNLx.out kx tx ix yx psx usx (by rw [← hpx]; exact (dec_enc _ hbx).1) (by rw [← hpx]; exact decOk_enc _ hbx) W h1 h2)
      have HBY := Lib.hid (fun W h => rbytes_op kx tx ix yx psx usx a4x c4x a5x c5x px hpx nx HNLx.out hbx W h)
      have hinj : (((bstr px).toList == (bstr py).toList) = same) := by
        rw [← HSM.out, Bool.eq_iff_iff, eqRec_iff, str_eq]
        constructor
        · intro h
          have h2 : px = py := by rw [← bstr_list px, h, bstr_list]
          rw [← (dec_enc _ hbx).1, ← (dec_enc _ hby).1, hpx, hpy, h2]
        · intro h; rw [← hpx, ← hpy, h]
      have HINJ := Lib.hid hinj
      clear hinj
      clear hbx hby hpx hpy
      go_wp2_with fail
      go_region_held3 (fun W' : World => (W'.cell? ⟨B, 0, none⟩ = some (.int .i64 kx) ∧ W'.cell? ⟨B, 1, none⟩ = some (.int .i64 tx) ∧ W'.cell? ⟨B, 2, none⟩ = some (.int .i64 ix) ∧ W'.cell? ⟨B, 3, none⟩ = some (.bool yx) ∧ W'.cell? ⟨B, 4, none⟩ = some (.slice a4x psx.length c4x) ∧ W'.cell? ⟨B, 5, none⟩ = some (.slice a5x usx.length c5x)) ∧ W'.cell? ⟨B + 1, 0, none⟩ = some (.int .i64 ky) ∧ W'.cell? ⟨B + 1, 1, none⟩ = some (.int .i64 ty) ∧ W'.cell? ⟨B + 1, 2, none⟩ = some (.int .i64 iy) ∧ W'.cell? ⟨B + 1, 3, none⟩ = some (.bool yy) ∧ W'.cell? ⟨B + 1, 4, none⟩ = some (.slice a4y psy.length c4y) ∧ W'.cell? ⟨B + 1, 5, none⟩ = some (.slice a5y usy.length c5y))
        (first | assumption | exact HC.out _ K6.out | exact HC.out _ K5.out | exact HC.out _ (Keep.refl NoF W0).drew | go_keep)
        (first
        | (go_at_call_of 35 a4x; refine (HENx.out _ (HRx.out.keep (Keep.refl NoF W0).drew)).mono ?_; rintro e w5 ⟨gx, cex, rfl, hox, slx, hkx, hgx, hhx⟩; have K5 := Lib.hid (hkx.of_drew : Keep NoF W0 w5); have L5 : Hid (Keep NoF w5 w5) := Keep.refl _ _; have HSx := Lib.hid (And.intro slx hhx); clear hox slx hgx hhx; clear hkx)
        | (go_at_call_of 35 a4y; refine (HENy.out _ (HRy.out.keep K5.out)).mono ?_; rintro e w6 ⟨gy, cey, rfl, hoy, sly, hky, hgy, hhy⟩; have K6 := Lib.hid (K5.out.trans' hky); have L6 : Hid (Keep NoF w5 w6) := Lib.hid hky; have M6 : Hid (Keep NoF w6 w6) := Keep.refl _ _; have HSy := Lib.hid (And.intro sly hhy); clear hoy sly hgy hhy; clear hky))
      all_goals
        obtain ⟨⟨c0, c1, c2, c3, c4, c5⟩, d0, d1, d2, d3, d4, d5⟩ := HC.out w6 K6.out
        go_wp2_with fail
        refine (HEQ.out w6 (HRx.out.keep K6.out) (HRy.out.keep K6.out)).mono ?_
        rintro e w7 ⟨rfl, hk7⟩
        have K7 := Lib.hid (K6.out.trans' hk7); have L7 := Lib.hid (L6.out.trans' hk7); have M7 := Lib.hid (M6.out.trans' hk7); clear hk7
        clear c0 c1 c2 c3 c4 c5 d0 d1 d2 d3 d4 d5
        obtain ⟨⟨c0, c1, c2, c3, c4, c5⟩, d0, d1, d2, d3, d4, d5⟩ := HC.out w7 K7.out
        go_wp2_with fail
        refine (HKE.out w7 (HRx.out.keep K7.out) (HRy.out.keep K7.out)).mono ?_
        rintro e w8 ⟨rfl, hk8⟩
        have K8 := Lib.hid (K7.out.trans' hk8); have L8 := Lib.hid (L7.out.trans' hk8); have M8 := Lib.hid (M7.out.trans' hk8); clear hk8
        have hss : (same != same) = false := by cases same <;> rfl
        have hq1 := Lib.run_eql_slice_nil (P := Try.prog) w8 24 5 (some ⟨gx, 0, none⟩) nx cex 0 0 Try.underlying24
        clear c0 c1 c2 c3 c4 c5 d0 d1 d2 d3 d4 d5
        obtain ⟨⟨c0, c1, c2, c3, c4, c5⟩, d0, d1, d2, d3, d4, d5⟩ := HC.out w8 K8.out
        go_wp2_with fail
        refine (HRRx.out w8 (HRx.out.keep K8.out)).mono ?_
        rintro e w9 ⟨rfl, hk9⟩
        have K9 := Lib.hid (K8.out.trans' hk9); have L9 := Lib.hid (L8.out.trans' hk9); have M9 := Lib.hid (M8.out.trans' hk9); clear hk9
        have hq2 := Lib.run_eql_slice_nil (P := Try.prog) w9 24 5 (some ⟨gx, 0, none⟩) nx cex 0 0 Try.underlying24
        clear c0 c1 c2 c3 c4 c5 d0 d1 d2 d3 d4 d5
        have HSX : Hid (∀ W, Keep NoF w9 W → SlB W (some ⟨gx, 0, none⟩) cex px) := fun W hW => HSx.out.1.keep (L9.out.trans' hW) (fun _ _ f => f)
        go_wp2_with fail
        refine (HDE.out cex gx w9 (HSX.out w9 (Keep.refl _ _)) (fun q hq => by have h1 := HSx.out.2; have h2 := L9.out.size; simp [blockOf] at hq; omega)).mono ?_
        rintro e wd ⟨a4d, c4d, a5d, c5d, rfl, hD, hkd, _, _⟩
        have h6 := heap_new wd (.cells (recCells kx tx ix yx (.slice a4d psx.length c4d) (.slice a5d usx.length c5d)) 38 (0, 0))
        have hk6 : Keep NoF w9 (wd.alloc (.cells (recCells kx tx ix yx (.slice a4d psx.length c4d) (.slice a5d usx.length c5d)) 38 (0, 0))) := hkd.alloc _
        have hD6 := hD.keep (keep_alloc wd (.cells (recCells kx tx ix yx (.slice a4d psx.length c4d) (.slice a5d usx.length c5d)) 38 (0, 0)))
        obtain ⟨X, hX⟩ : ∃ X, wd.heap.size = X := ⟨_, rfl⟩
        have HXX := Lib.hid hX
        clear hD hkd hX hq1 hq2
        go_upto_region 12 with fail
        rw [HXX.out]
        rw [HXX.out] at h6
        show Code.wp _ _ _ _ (wd.alloc (.cells (recCells kx tx ix yx (.slice a4d psx.length c4d) (.slice a5d usx.length c5d)) 38 (0, 0)))
        generalize wd.alloc (.cells (recCells kx tx ix yx (.slice a4d psx.length c4d) (.slice a5d usx.length c5d)) 38 (0, 0)) = WD at h6 hk6 hD6 ⊢
        have K10 := Lib.hid (K9.out.trans' hk6); have N10 := Lib.hid hk6; have HD := Lib.hid hD6
        have hcx : ∀ W, Keep NoF WD W → RecC W X kx tx ix yx (.slice a4d psx.length c4d) (.slice a5d usx.length c5d) := fun W hW => rec_cells (row_keep h6 hW)
        unfold RecC at hcx
        have HCX := Lib.hid hcx
        have HCV : Hid (∀ W, Keep NoF WD W → (convert 24 9 (.slice (some ⟨gx, 0, none⟩) nx cex)).run Try.prog W = .ok (.string (bstr px)) W) := fun W hW => conv_slb (HSX.out W (N10.out.trans' hW)) HNLx.out
        have HCW : Hid (∀ W, Keep NoF WD W → (convert 24 9 (.slice (some ⟨gy, 0, none⟩) ny cey)).run Try.prog W = .ok (.string (bstr py)) W) := fun W hW => conv_slb (HSy.out.1.keep ((M9.out.trans' N10.out).trans' hW) (fun _ _ f => f)) HNLy.out
        have hcb : ∀ W, Keep NoF WD W → RecC W B kx tx ix yx (.slice a4x psx.length c4x) (.slice a5x usx.length c5x) ∧ RecC W X kx tx ix yx (.slice a4d psx.length c4d) (.slice a5d usx.length c5d) := fun W hW => ⟨(HC.out W (K10.out.trans' hW)).1, HCX.out W hW⟩
        unfold RecC at hcb
        have HCB := Lib.hid hcb
        clear h6 hk6 hD6 hcx hcb
        have hv0 := HCV.out WD.drew (Keep.refl NoF WD).drew
        have hnqA : ∀ W, (binOp .eql 24 (.slice (some ⟨gy, 0, none⟩) ny cey) (.slice none 0 0)).run Try.prog W = .ok (.bool false) W := fun W => Lib.run_eql_slice_nil (P := Try.prog) W 24 5 (some ⟨gy, 0, none⟩) ny cey 0 0 Try.underlying24
        clear HEQ HKE HSM HRRx HDE HRy HB1 HB3 HC HCX HSX HSx HSy HZ HZ2 HBB K1 K5 K6 K7 K8 L5 L6 L7 L8 L9 M6 M7 M8 M9 N10 HXX hss HENx HENy K9
        refine wp_region_noPanic ?_
        refine wp_region_held_drew (S := (fun W' : World => ((W'.cell? ⟨B, 0, none⟩ = some (.int .i64 kx) ∧ W'.cell? ⟨B, 1, none⟩ = some (.int .i64 tx) ∧ W'.cell? ⟨B, 2, none⟩ = some (.int .i64 ix) ∧ W'.cell? ⟨B, 3, none⟩ = some (.bool yx) ∧ W'.cell? ⟨B, 4, none⟩ = some (.slice a4x psx.length c4x) ∧ W'.cell? ⟨B, 5, none⟩ = some (.slice a5x usx.length c5x)) ∧ W'.cell? ⟨X, 0, none⟩ = some (.int .i64 kx) ∧ W'.cell? ⟨X, 1, none⟩ = some (.int .i64 tx) ∧ W'.cell? ⟨X, 2, none⟩ = some (.int .i64 ix) ∧ W'.cell? ⟨X, 3, none⟩ = some (.bool yx) ∧ W'.cell? ⟨X, 4, none⟩ = some (.slice a4d psx.length c4d) ∧ W'.cell? ⟨X, 5, none⟩ = some (.slice a5d usx.length c5d)) ∧ (convert 24 9 (.slice (some ⟨gx, 0, none⟩) nx cex)).run Try.prog W' = .ok (.string (bstr px)) W' ∧ (convert 24 9 (.slice (some ⟨gy, 0, none⟩) ny cey)).run Try.prog W' = .ok (.string (bstr py)) W')) (by kernel_rfl) (⟨HCB.out _ (Keep.refl NoF WD).drew, HCV.out _ (Keep.refl NoF WD).drew, HCW.out _ (Keep.refl NoF WD).drew⟩) (fun hHeld => ?_)
        refine wpAnyH_take (i := 0) (oi := ?oB0) (v := ?vB0) ?hiB0 (by kernel_rfl) (by kernel_rfl) (by kernel_rfl) (fun _ _ _ h => h) (Or.inl ⟨?wB0, ?yB0⟩) (by assumption) ?rB0
        case hiB0 => (simp only [List.getElem?_toArray, List.getElem?_cons_zero]; try rfl)
        case wB0 => rfl
        case yB0 => (intro w hSw; (try dsimp only at hSw); go_simp; (try with_reducible rfl))
        (try simp only [Act.put, List.setIfInBounds_toArray, List.set_cons_zero, List.set_cons_succ])
        refine wpAnyH_take (i := 1) (oi := ?oB1) (v := ?vB1) ?hiB1 (by kernel_rfl) (by kernel_rfl) (by kernel_rfl) (fun _ _ _ h => h) (Or.inl ⟨?wB1, ?yB1⟩) (by assumption) ?rB1
        case hiB1 => (simp only [List.getElem?_toArray, List.getElem?_cons_succ, List.getElem?_cons_zero]; try rfl)
        case wB1 => rfl
        case yB1 => (intro w hSw; (try dsimp only at hSw); go_simp; (try with_reducible rfl))
        (try simp only [Act.put, List.setIfInBounds_toArray, List.set_cons_zero, List.set_cons_succ])
        refine wpAnyH_take (i := 2) (oi := ?oB2) (v := ?vB2) ?hiB2 (by kernel_rfl) (by kernel_rfl) (by kernel_rfl) (fun _ _ _ h => h) (Or.inl ⟨?wB2, ?yB2⟩) (by assumption) ?rB2
        case hiB2 => (simp only [List.getElem?_toArray, List.getElem?_cons_succ, List.getElem?_cons_zero]; try rfl)
        case wB2 => rfl
        case yB2 => (intro w hSw; (try dsimp only at hSw); go_simp; (try with_reducible rfl))
        (try simp only [Act.put, List.setIfInBounds_toArray, List.set_cons_zero, List.set_cons_succ])
        refine wpAnyH_ready (rs := [3]) (by kernel_rfl) (by simp) ?_
        refine AllReadyH.cons (o := ?oB3) ?hiB3 (fun K hK => ?_) AllReadyH.nil
        case hiB3 => (simp only [List.getElem?_toArray, List.getElem?_cons_succ, List.getElem?_cons_zero]; try rfl)
        go_simp
        (go_at_call 39; refine (HBY.out _ (HRx.out.keep K10.out.drew)).mono ?_; rintro e wb ⟨av, cv, rfl, slv, hkb⟩; have KB := Lib.hid (hkb.of_drew : Keep NoF WD wb); have hvc := conv_slb slv HNLx.out; clear hkb slv)
        go_wp2_with fail
        refine hK.out _ _ (⟨HCB.out _ KB.out, HCV.out _ KB.out, HCW.out _ KB.out⟩) (fun hHeld => ?_)
        clear hK K
        (try simp only [Act.put, List.setIfInBounds_toArray, List.set_cons_zero, List.set_cons_succ])
        refine wpAnyH_ready (rs := [4]) (by kernel_rfl) (by simp) ?_
        refine AllReadyH.cons (o := ?oB4) ?hiB4 (fun K hK => ?_) AllReadyH.nil
        case hiB4 => (simp only [List.getElem?_toArray, List.getElem?_cons_succ, List.getElem?_cons_zero]; try rfl)
        go_simp
        refine hK.out _ _ (⟨HCB.out _ KB.out, HCV.out _ KB.out, HCW.out _ KB.out⟩) (fun hHeld => ?_)
        clear hK K
        (try simp only [Act.put, List.setIfInBounds_toArray, List.set_cons_zero, List.set_cons_succ])
        refine wpAnyH_take (i := 5) (oi := ?oB5) (v := ?vB5) ?hiB5 (by kernel_rfl) (by kernel_rfl) (by kernel_rfl) (fun _ _ _ h => h) (Or.inl ⟨?wB5, ?yB5⟩) (by assumption) ?rB5
        case hiB5 => (simp only [List.getElem?_toArray, List.getElem?_cons_succ, List.getElem?_cons_zero]; try rfl)
        case wB5 => rfl
        case yB5 => (intro w hSw; (try dsimp only at hSw); go_simp; (try with_reducible rfl))
        (try simp only [Act.put, List.setIfInBounds_toArray, List.set_cons_zero, List.set_cons_succ])
        refine wpAnyH_take (i := 6) (oi := ?oB6) (v := ?vB6) ?hiB6 (by kernel_rfl) (by kernel_rfl) (by kernel_rfl) (fun _ _ _ h => h) (Or.inl ⟨?wB6, ?yB6⟩) (by assumption) ?rB6
        case hiB6 => (simp only [List.getElem?_toArray, List.getElem?_cons_succ, List.getElem?_cons_zero]; try rfl)
        case wB6 => rfl
        case yB6 => (intro w hSw; (try dsimp only at hSw); go_simp; (try with_reducible rfl))
        (try simp only [Act.put, List.setIfInBounds_toArray, List.set_cons_zero, List.set_cons_succ])
        refine wpAnyH_take (i := 7) (oi := ?oB7) (v := ?vB7) ?hiB7 (by kernel_rfl) (by kernel_rfl) (by kernel_rfl) (fun _ _ _ h => h) (Or.inl ⟨?wB7, ?yB7⟩) (by assumption) ?rB7
        case hiB7 => (simp only [List.getElem?_toArray, List.getElem?_cons_succ, List.getElem?_cons_zero]; try rfl)
        case wB7 => rfl
        case yB7 => (intro w hSw; (try dsimp only at hSw); go_simp; (try with_reducible rfl))
        (try simp only [Act.put, List.setIfInBounds_toArray, List.set_cons_zero, List.set_cons_succ])
        refine wpAnyH_take (i := 8) (oi := ?oB8) (v := ?vB8) ?hiB8 (by kernel_rfl) (by kernel_rfl) (by kernel_rfl) (fun _ _ _ h => h) (Or.inl ⟨?wB8, ?yB8⟩) (by assumption) ?rB8
        case hiB8 => (simp only [List.getElem?_toArray, List.getElem?_cons_succ, List.getElem?_cons_zero]; try rfl)
        case wB8 => rfl
        case yB8 => (intro w hSw; (try dsimp only at hSw); go_simp; (try with_reducible rfl))
        (try simp only [Act.put, List.setIfInBounds_toArray, List.set_cons_zero, List.set_cons_succ])
        refine wpAnyH_take (i := 9) (oi := ?oB9) (v := ?vB9) ?hiB9 (by kernel_rfl) (by kernel_rfl) (by kernel_rfl) (fun _ _ _ h => h) (Or.inl ⟨?wB9, ?yB9⟩) (by assumption) ?rB9
        case hiB9 => (simp only [List.getElem?_toArray, List.getElem?_cons_succ, List.getElem?_cons_zero]; try rfl)
        case wB9 => rfl
        case yB9 => (intro w hSw; (try dsimp only at hSw); go_simp; (try with_reducible rfl))
        (try simp only [Act.put, List.setIfInBounds_toArray, List.set_cons_zero, List.set_cons_succ])
        refine wpAnyH_take (i := 10) (oi := ?oB10) (v := ?vB10) ?hiB10 (by kernel_rfl) (by kernel_rfl) (by kernel_rfl) (fun _ _ _ h => h) (Or.inl ⟨?wB10, ?yB10⟩) (by assumption) ?rB10
        case hiB10 => (simp only [List.getElem?_toArray, List.getElem?_cons_succ, List.getElem?_cons_zero]; try rfl)
        case wB10 => rfl
        case yB10 => (intro w hSw; (try dsimp only at hSw); go_simp; (try with_reducible rfl))
        (try simp only [Act.put, List.setIfInBounds_toArray, List.set_cons_zero, List.set_cons_succ])
        refine wpAnyH_take (i := 11) (oi := ?oB11) (v := ?vB11) ?hiB11 (by kernel_rfl) (by kernel_rfl) (by kernel_rfl) (fun _ _ _ h => h) (Or.inl ⟨?wB11, ?yB11⟩) (by assumption) ?rB11
        case hiB11 => (simp only [List.getElem?_toArray, List.getElem?_cons_succ, List.getElem?_cons_zero]; try rfl)
        case wB11 => rfl
        case yB11 => (intro w hSw; (try dsimp only at hSw); go_simp; (try with_reducible rfl))
        (try simp only [Act.put, List.setIfInBounds_toArray, List.set_cons_zero, List.set_cons_succ])
        refine wpAnyH_take (i := 12) (oi := ?oB12) (v := ?vB12) ?hiB12 (by kernel_rfl) (by kernel_rfl) (by kernel_rfl) (fun _ _ _ h => h) (Or.inl ⟨?wB12, ?yB12⟩) (by assumption) ?rB12
        case hiB12 => (simp only [List.getElem?_toArray, List.getElem?_cons_succ, List.getElem?_cons_zero]; try rfl)
        case wB12 => rfl
        case yB12 => (intro w hSw; (try dsimp only at hSw); go_simp; (try with_reducible rfl))
        (try simp only [Act.put, List.setIfInBounds_toArray, List.set_cons_zero, List.set_cons_succ])
        refine wpAnyH_ready (rs := [13]) (by kernel_rfl) (by simp) ?_
        refine AllReadyH.cons (o := ?oB13) ?hiB13 (fun K hK => ?_) AllReadyH.nil
        case hiB13 => (simp only [List.getElem?_toArray, List.getElem?_cons_succ, List.getElem?_cons_zero]; try rfl)
        go_simp
        (go_at_call 36; refine (req_op kx tx ix yx psx usx kx tx ix yx psx usx a4d c4d a5d c5d a4x c4x a5x c5x true (eqRec_iff.2 rfl) _ (HD.out.keep KB.out) (HRx.out.keep (K10.out.trans' KB.out))).mono ?_; rintro e wc ⟨rfl, hkc⟩; have KC := Lib.hid (KB.out.trans' hkc); have hinj := HINJ.out; clear hkc)
        go_wp2_with fail
        refine hK.out _ _ (⟨HCB.out _ KC.out, HCV.out _ KC.out, HCW.out _ KC.out⟩) (fun hHeld => ?_)
        clear hK K
        (try simp only [Act.put, List.setIfInBounds_toArray, List.set_cons_zero, List.set_cons_succ])
        refine wpAnyH_take (i := 14) (oi := ?oB14) (v := ?vB14) ?hiB14 (by kernel_rfl) (by kernel_rfl) (by kernel_rfl) (fun _ _ _ h => h) (Or.inl ⟨?wB14, ?yB14⟩) (by assumption) ?rB14
        case hiB14 => (simp only [List.getElem?_toArray, List.getElem?_cons_succ, List.getElem?_cons_zero]; try rfl)
        case wB14 => rfl
        case yB14 => (intro w hSw; (try dsimp only at hSw); go_simp; (try with_reducible rfl))
        (try simp only [Act.put, List.setIfInBounds_toArray, List.set_cons_zero, List.set_cons_succ])
        refine wpAnyH_take (i := 15) (oi := ?oB15) (v := ?vB15) ?hiB15 (by kernel_rfl) (by kernel_rfl) (by kernel_rfl) (fun _ _ _ h => h) (Or.inl ⟨?wB15, ?yB15⟩) (by assumption) ?rB15
        case hiB15 => (simp only [List.getElem?_toArray, List.getElem?_cons_succ, List.getElem?_cons_zero]; try rfl)
        case wB15 => rfl
        case yB15 => (intro w hSw; (try dsimp only at hSw); go_simp; (try with_reducible rfl))
        (try simp only [Act.put, List.setIfInBounds_toArray, List.set_cons_zero, List.set_cons_succ])
        refine wpAnyH_take (i := 16) (oi := ?oB16) (v := ?vB16) ?hiB16 (by kernel_rfl) (by kernel_rfl) (by kernel_rfl) (fun _ _ _ h => h) (Or.inl ⟨?wB16, ?yB16⟩) (by assumption) ?rB16
        case hiB16 => (simp only [List.getElem?_toArray, List.getElem?_cons_succ, List.getElem?_cons_zero]; try rfl)
        case wB16 => rfl
        case yB16 => (intro w hSw; (try dsimp only at hSw); go_simp; (try with_reducible rfl))
        (try simp only [Act.put, List.setIfInBounds_toArray, List.set_cons_zero, List.set_cons_succ])
        refine wpAnyH_take (i := 17) (oi := ?oB17) (v := ?vB17) ?hiB17 (by kernel_rfl) (by kernel_rfl) (by kernel_rfl) (fun _ _ _ h => h) (Or.inl ⟨?wB17, ?yB17⟩) (by assumption) ?rB17
        case hiB17 => (simp only [List.getElem?_toArray, List.getElem?_cons_succ, List.getElem?_cons_zero]; try rfl)
        case wB17 => rfl
        case yB17 => (intro w hSw; (try dsimp only at hSw); go_simp; (try with_reducible rfl))
        (try simp only [Act.put, List.setIfInBounds_toArray, List.set_cons_zero, List.set_cons_succ])
        refine wpAnyH_take (i := 18) (oi := ?oB18) (v := ?vB18) ?hiB18 (by kernel_rfl) (by kernel_rfl) (by kernel_rfl) (fun _ _ _ h => h) (Or.inl ⟨?wB18, ?yB18⟩) (by assumption) ?rB18
        case hiB18 => (simp only [List.getElem?_toArray, List.getElem?_cons_succ, List.getElem?_cons_zero]; try rfl)
        case wB18 => rfl
        case yB18 => (intro w hSw; (try dsimp only at hSw); go_simp; (try with_reducible rfl))
        (try simp only [Act.put, List.setIfInBounds_toArray, List.set_cons_zero, List.set_cons_succ])
        refine wpAnyH_take (i := 19) (oi := ?oB19) (v := ?vB19) ?hiB19 (by kernel_rfl) (by kernel_rfl) (by kernel_rfl) (fun _ _ _ h => h) (Or.inl ⟨?wB19, ?yB19⟩) (by assumption) ?rB19
        case hiB19 => (simp only [List.getElem?_toArray, List.getElem?_cons_succ, List.getElem?_cons_zero]; try rfl)
        case wB19 => rfl
        case yB19 => (intro w hSw; (try dsimp only at hSw); go_simp; (try with_reducible rfl))
        (try simp only [Act.put, List.setIfInBounds_toArray, List.set_cons_zero, List.set_cons_succ])
        refine wpAnyH_take (i := 20) (oi := ?oB20) (v := ?vB20) ?hiB20 (by kernel_rfl) (by kernel_rfl) (by kernel_rfl) (fun _ _ _ h => h) (Or.inl ⟨?wB20, ?yB20⟩) (by assumption) ?rB20
        case hiB20 => (simp only [List.getElem?_toArray, List.getElem?_cons_succ, List.getElem?_cons_zero]; try rfl)
        case wB20 => rfl
        case yB20 => (intro w hSw; (try dsimp only at hSw); go_simp; (try with_reducible rfl))
        (try simp only [Act.put, List.setIfInBounds_toArray, List.set_cons_zero, List.set_cons_succ])
        refine wpAnyH_take (i := 21) (oi := ?oB21) (v := ?vB21) ?hiB21 (by kernel_rfl) (by kernel_rfl) (by kernel_rfl) (fun _ _ _ h => h) (Or.inl ⟨?wB21, ?yB21⟩) (by assumption) ?rB21
        case hiB21 => (simp only [List.getElem?_toArray, List.getElem?_cons_succ, List.getElem?_cons_zero]; try rfl)
        case wB21 => rfl
        case yB21 => (intro w hSw; (try dsimp only at hSw); go_simp; (try with_reducible rfl))
        (try simp only [Act.put, List.setIfInBounds_toArray, List.set_cons_zero, List.set_cons_succ])
        refine wpAnyH_take (i := 22) (oi := ?oB22) (v := ?vB22) ?hiB22 (by kernel_rfl) (by kernel_rfl) (by kernel_rfl) (fun _ _ _ h => h) (Or.inl ⟨?wB22, ?yB22⟩) (by assumption) ?rB22
        case hiB22 => (simp only [List.getElem?_toArray, List.getElem?_cons_succ, List.getElem?_cons_zero]; try rfl)
        case wB22 => rfl
        case yB22 => (intro w hSw; (try dsimp only at hSw); go_simp; (try with_reducible rfl))
        (try simp only [Act.put, List.setIfInBounds_toArray, List.set_cons_zero, List.set_cons_succ])
        refine wpAnyH_take (i := 23) (oi := ?oB23) (v := ?vB23) ?hiB23 (by kernel_rfl) (by kernel_rfl) (by kernel_rfl) (fun _ _ _ h => h) (Or.inl ⟨?wB23, ?yB23⟩) (by assumption) ?rB23
        case hiB23 => (simp only [List.getElem?_toArray, List.getElem?_cons_succ, List.getElem?_cons_zero]; try rfl)
        case wB23 => rfl
        case yB23 => (intro w hSw; (try dsimp only at hSw); go_simp; (try with_reducible rfl))
        (try simp only [Act.put, List.setIfInBounds_toArray, List.set_cons_zero, List.set_cons_succ])
        refine wpAnyH_take (i := 24) (oi := ?oB24) (v := ?vB24) ?hiB24 (by kernel_rfl) (by kernel_rfl) (by kernel_rfl) (fun _ _ _ h => h) (Or.inl ⟨?wB24, ?yB24⟩) (by assumption) ?rB24
        case hiB24 => (simp only [List.getElem?_toArray, List.getElem?_cons_succ, List.getElem?_cons_zero]; try rfl)
        case wB24 => rfl
        case yB24 => (intro w hSw; (try dsimp only at hSw); go_simp; (try with_reducible rfl))
        (try simp only [Act.put, List.setIfInBounds_toArray, List.set_cons_zero, List.set_cons_succ])
        refine wpAnyH_take (i := 25) (oi := ?oB25) (v := ?vB25) ?hiB25 (by kernel_rfl) (by kernel_rfl) (by kernel_rfl) (fun _ _ _ h => h) (Or.inl ⟨?wB25, ?yB25⟩) (by assumption) ?rB25
        case hiB25 => (simp only [List.getElem?_toArray, List.getElem?_cons_succ, List.getElem?_cons_zero]; try rfl)
        case wB25 => rfl
        case yB25 => (intro w hSw; (try dsimp only at hSw); go_simp; (try with_reducible rfl))
        (try simp only [Act.put, List.setIfInBounds_toArray, List.set_cons_zero, List.set_cons_succ])
        refine wpAnyH_take (i := 26) (oi := ?oB26) (v := ?vB26) ?hiB26 (by kernel_rfl) (by kernel_rfl) (by kernel_rfl) (fun _ _ _ h => h) (Or.inl ⟨?wB26, ?yB26⟩) (by assumption) ?rB26
        case hiB26 => (simp only [List.getElem?_toArray, List.getElem?_cons_succ, List.getElem?_cons_zero]; try rfl)
        case wB26 => rfl
        case yB26 => (intro w hSw; (try dsimp only at hSw); go_simp; (try with_reducible rfl))
        (try simp only [Act.put, List.setIfInBounds_toArray, List.set_cons_zero, List.set_cons_succ])
        refine wpAnyH_take (i := 27) (oi := ?oB27) (v := ?vB27) ?hiB27 (by kernel_rfl) (by kernel_rfl) (by kernel_rfl) (fun _ _ _ h => h) (Or.inl ⟨?wB27, ?yB27⟩) (by assumption) ?rB27
        case hiB27 => (simp only [List.getElem?_toArray, List.getElem?_cons_succ, List.getElem?_cons_zero]; try rfl)
        case wB27 => rfl
        case yB27 => (intro w hSw; (try dsimp only at hSw); go_simp; (try with_reducible rfl))
        (try simp only [Act.put, List.setIfInBounds_toArray, List.set_cons_zero, List.set_cons_succ])
        refine wpAnyH_take (i := 28) (oi := ?oB28) (v := ?vB28) ?hiB28 (by kernel_rfl) (by kernel_rfl) (by kernel_rfl) (fun _ _ _ h => h) (Or.inl ⟨?wB28, ?yB28⟩) (by assumption) ?rB28
        case hiB28 => (simp only [List.getElem?_toArray, List.getElem?_cons_succ, List.getElem?_cons_zero]; try rfl)
        case wB28 => rfl
        case yB28 => (intro w hSw; (try dsimp only at hSw); go_simp; (try with_reducible rfl))
        (try simp only [Act.put, List.setIfInBounds_toArray, List.set_cons_zero, List.set_cons_succ])
        refine wpAnyH_done (by kernel_rfl) ?_ _
        refine NoPanic.normal ?_
        all_goals
          go_wp2_with fail
          go_ret
          exact ⟨rfl, K3.out.trans' (K10.out.trans' KC.out)⟩

set_option linter.unusedVariables false
set_option maxRecDepth 100000 in
theorem lifted (os : Os) (started : os.Started) (H : Type) (enc : TypeId × Value → H) :
    ReturnsInHanded {} Try.checked os 7 .any (Rows.recAllSpec.pre6 enc Try.prog Try.f7 Rows.recAllRow.domain false) (Rows.recAllSpec.post enc Try.prog Try.f7 false true false false) := by
  refine returnsInHanded_of_change (C := Try.checked) own started (by kernel_rfl) Try.func7
    (ChangeSpec.witness6 (enc := enc) (C := Try.checked) false ⟨#[], #[.agg #[.int .i64 0, .int .i64 0, .int .i64 0, .bool false, .slice none 0 0, .slice none 0 0], .agg #[.int .i64 0, .int .i64 0, .int .i64 0, .bool false, .slice none 0 0, .slice none 0 0]], []⟩ 8 (by kernel_rfl) (by kernel_rfl) (by kernel_rfl) (by kernel_rfl)) ?_
  intro W base args ds gs before hval0 hW hcnd _
  have hval : ∀ (j : Nat) t v, Try.f7.params[j]? = some t → args[j]? = some v → Value.okWide Try.prog W .any base t v := hval0
  have hW' := hW
  obtain ⟨p, q, hA0, hV, rfl, hfz, hnd⟩ := hW
  have hA : DataW.TrodAll enc Try.prog W 0 (fun _ => true) true Try.f7.params.toList args.toList ds p := hA0
  rw [Try.params7] at hA hval
  obtain ⟨v0, vs0, d0, ds0, p0, q0, hargs, rfl, rfl, h0, r0⟩ := trodAll_cons hA
  obtain ⟨v1, vs1, d1, ds1, p1, q1, rfl, rfl, rfl, h1, r1⟩ := trodAll_cons r0
  obtain ⟨rfl, rfl, rfl⟩ := trodAll_nil r1
  obtain rfl : args = #[v0, v1] := by cases args; simp_all
  obtain ⟨rfl, rfl⟩ := trodVars_none hV
  have k0 := h0
  have lt0 : ∀ x ∈ p0, x.block < W.heap.size := by obtain ⟨m, hm⟩ := k0; exact DataW.trod_lt m _ _ _ hm
  obtain ⟨z0, rfl, w0⟩ := open_arg0 W base (hval 0 38 v0 rfl rfl) h0
  have k1 := h1
  have lt1 : ∀ x ∈ p1, x.block < W.heap.size := by obtain ⟨m, hm⟩ := k1; exact DataW.trod_lt m _ _ _ hm
  obtain ⟨z1, rfl, w1⟩ := open_arg1 W base (hval 1 38 v1 rfl rfl) h1
  clear hA0 hval0
  refine (walk W z0 w0 z1 w1).mono fun e W' ⟨he, hk⟩ => ?_
  subst he
  have bel := Keep.below hk
  exact ⟨_, rfl, _, _, _, [], _, [], hW', trodAll_mk1 (shut_bool Try.underlying4 _), (trodAll_cons_mk (Below.trod laidOut (by kernel_rfl) (of_decide_eq_true (by kernel_rfl)) k0 bel lt0) (trodAll_cons_mk (Below.trod laidOut (by kernel_rfl) (of_decide_eq_true (by kernel_rfl)) k1 bel lt1) trodAll_mk0)), rfl, bel.frame _, fun h => by cases h⟩

theorem over : Rows.recAllRow.holds Try.pinned (OpenSpec.ofChange Rows.recAllSpec) :=
  OpenClaim.holds_of_wide 7 Try.f7 rfl rfl rfl rfl rfl rfl rfl ⟨rfl, rfl, rfl, rfl, rfl⟩ rfl rfl rfl rfl rfl (by kernel_rfl) Try.func7 (by kernel_rfl)
    (of_decide_eq_true (by kernel_rfl)) (by unfold Func.isWrapper; rw [if_neg (of_decide_eq_false (by kernel_rfl))]; exact ⟨rfl, rfl⟩)
    (fun os started H enc _ => lifted os started H enc)

/-- The statement. -/
theorem proved : Rows.RecAllSaid := over
#print axioms proved
end Go.Proofs.Ytgbogbjifpijkaa.recAll
