/- KindTurn: the law returns true and changes nothing that was there. No conditions. -/
import Derived.Test.YtgbogbjifpijkaaLaw8b
import Derived.Test.YtgbogbjifpijkaaRows
import Derived.WalkKit
import Derived.ProofKit
import Derived.OpenShut
import Derived.ShutString
import Derived.ChangeOld
import Derived.Below
namespace Go.Proofs.Ytgbogbjifpijkaa.kindTurn
open Go Go.ChangeShapes Go.WideShapes Go.ChangeAt Go.RowKit
open Go.ChangeMaps (open_string shut_string)

theorem own : ownKnob Try.prog.godebug = none := by kernel_rfl
theorem laidOut : laidOutB Try.prog = true := by kernel_rfl

theorem open_arg0 {H : Type} {enc : TypeId × Value → H} {r : Reach} {b0 : Nat} {v : Value} {d : DataW H} {p : List MemPlace} (W : World) (_base : Nat)
    (hv : Value.okWide Try.prog W r b0 38 v) (h : DataW.Trod enc Try.prog W 0 (fun _ => true) true 38 v d p) : ∃ z : RecA, v = z.val ∧ z.Ok W := open_record hv h

theorem tmod_bounds (a m : Int) (hm : 0 < m) : -m < a.tmod m ∧ a.tmod m < m := by
  by_cases h : 0 ≤ a
  · rw [Int.tmod_eq_emod_of_nonneg h]
    have := Int.emod_nonneg a (b := m) (by omega)
    have := Int.emod_lt_of_pos a hm
    omega
  · have e : a = -(-a) := by omega
    rw [e, Int.neg_tmod, Int.tmod_eq_emod_of_nonneg (by omega)]
    have := Int.emod_nonneg (-a) (b := m) (by omega)
    have := Int.emod_lt_of_pos (-a) hm
    omega
theorem tmod_pos (a m : Int) (ha : 0 ≤ a) (hm : 0 < m) : 0 ≤ a.tmod m ∧ a.tmod m < m := by
  rw [Int.tmod_eq_emod_of_nonneg ha]
  exact ⟨Int.emod_nonneg a (by omega), Int.emod_lt_of_pos a hm⟩

set_option maxHeartbeats 16000000 in
theorem walk (w : World) (z : RecA) (hz : z.Ok w) (which : Int) (hw : (Lit.int .i64 which).wf = true) (x : Int) (hx : (Lit.int .i64 x).wf = true) :
    Calls Try.prog 6 #[z.val, .int .i64 which, .int .i64 x] w fun e w' => e = .returned (.bool true) ∧ Keep NoF w w' := by
  obtain ⟨⟨k, t, i, y, ps, us⟩, a4, c4, a5, c5⟩ := z
  have HZ : Hid (RecAt w ⟨k, t, i, y, ps, us⟩ a4 c4 a5 c5) := hz
  have HXI : Hid (InI64 x) := bounds_i64 hx
  have bw := bounds_i64 hw
  obtain ⟨r, hr⟩ : ∃ r, which.tmod 7 = r := ⟨_, rfl⟩
  have hrb := tmod_bounds which 7 (by omega)
  rw [hr] at hrb
  obtain ⟨q, hq⟩ : ∃ q, (r + 7).tmod 7 = q := ⟨_, rfl⟩
  have hqb := tmod_pos (r + 7) 7 (by omega) (by omega)
  rw [hq] at hqb
  unfold RecA.val recVal
  simp only
  clear hz hx hw
  go_enter Try.func6, Try.ntmps6
  go_wp2_with fail
  refine (begun8_any _).mono ?_
  rintro e w1 ⟨rfl, hk⟩
  have h0 := heap_new w (.cells (recCells k t i y (.slice a4 ps.length c4) (.slice a5 us.length c5)) 38 (0, 0))
  have HROW : Hid (w1.heap[w.heap.size]? = some (.cells (recCells k t i y (.slice a4 ps.length c4) (.slice a5 us.length c5)) 38 (0, 0))) := row_keep h0 hk
  have K1 : Hid (Keep NoF w w1) := Lib.hid ((keep_alloc w _).trans' hk)
  have HRAT := Lib.hid (HZ.out.keep K1.out)
  obtain ⟨B, hB⟩ : ∃ B, w.heap.size = B := ⟨_, rfl⟩
  have HBB : Hid (w.heap.size ≤ B) := Lib.hid (by omega)
  rw [hB] at HROW ⊢
  clear h0 hk hB
  have hfree := rec_free HROW.out
  obtain ⟨c0, c1, c2, c3, c4', c5'⟩ := rec_cells HROW.out
  clear hfree
  go_wp2_with fail
  refine (record8_op k t i y ps us a4 c4 a5 c5 _ HRAT.out).mono ?_
  rintro e w2 ⟨k1, t1, i1, y1, ps1, us1, b4, d4, b5, d5, rfl, hX, hk2, hf4, hf5, hl9, hl12, hpu, ho4, ho5, hdis⟩
  have hrow2 := row_keep HROW.out hk2
  clear c0 c1 c2 c3 c4' c5'
  obtain ⟨c0, c1, c2, c3, c4', c5'⟩ := rec_cells hrow2
  obtain ⟨f0, f1, f2, f3, f4, f5⟩ := rec_free hrow2
  have h6 := setRec hrow2 k1 t1 i1 y1 (.slice b4 ps1.length d4) (.slice b5 us1.length d5)
  have hlt := lt_of_heap HROW.out
  have hX6 : RecAt (((((((w2).setCell ⟨B, 0, none⟩ (.int .i64 k1)).setCell ⟨B, 1, none⟩ (.int .i64 t1)).setCell ⟨B, 2, none⟩ (.int .i64 i1)).setCell ⟨B, 3, none⟩ (.bool y1)).setCell ⟨B, 4, none⟩ (.slice b4 ps1.length d4)).setCell ⟨B, 5, none⟩ (.slice b5 us1.length d5)) ⟨k1, t1, i1, y1, ps1, us1⟩ b4 d4 b5 d5 := hX.keepZ h6.2 (fun j hj e => by have := hf4 j hj; omega) (fun j hj e => by have := hf5 j hj; omega)
  have hO6 : OwnI (((((((w2).setCell ⟨B, 0, none⟩ (.int .i64 k1)).setCell ⟨B, 1, none⟩ (.int .i64 t1)).setCell ⟨B, 2, none⟩ (.int .i64 i1)).setCell ⟨B, 3, none⟩ (.bool y1)).setCell ⟨B, 4, none⟩ (.slice b4 ps1.length d4)).setCell ⟨B, 5, none⟩ (.slice b5 us1.length d5)) (.slice b4 ps1.length d4) ps1 := ho4.keep h6.2 (fun j hj e => by rw [own_blk] at hj; have := hf4 j hj; omega)
  have hP6 : OwnP (((((((w2).setCell ⟨B, 0, none⟩ (.int .i64 k1)).setCell ⟨B, 1, none⟩ (.int .i64 t1)).setCell ⟨B, 2, none⟩ (.int .i64 i1)).setCell ⟨B, 3, none⟩ (.bool y1)).setCell ⟨B, 4, none⟩ (.slice b4 ps1.length d4)).setCell ⟨B, 5, none⟩ (.slice b5 us1.length d5)) (.slice b5 us1.length d5) us1 := ho5.keep h6.2 (fun j hj e => by rw [own_blk] at hj; have := hf5 j hj; omega)
  have hN6 : (∀ j, blockOf b4 = some j → j ≠ B ∧ w.heap.size ≤ j) ∧ (∀ j, blockOf b5 = some j → j ≠ B ∧ w.heap.size ≤ j) := ⟨fun j hj => ⟨by have := hf4 j hj; omega, by have := hf4 j hj; have := K1.out.size; omega⟩, fun j hj => ⟨by have := hf5 j hj; omega, by have := hf5 j hj; have := K1.out.size; omega⟩⟩
  have hK6 : Keep NoF w (((((((w2).setCell ⟨B, 0, none⟩ (.int .i64 k1)).setCell ⟨B, 1, none⟩ (.int .i64 t1)).setCell ⟨B, 2, none⟩ (.int .i64 i1)).setCell ⟨B, 3, none⟩ (.bool y1)).setCell ⟨B, 4, none⟩ (.slice b4 ps1.length d4)).setCell ⟨B, 5, none⟩ (.slice b5 us1.length d5)) := (K1.out.trans' hk2).trans h6.2 (fun _ _ f => f) (fun j hj e => by have := HBB.out; omega)
  have H6 := Lib.hid h6; have HX := Lib.hid hX6; have K6 := Lib.hid hK6; have HLN := Lib.hid (And.intro hl9 (And.intro hl12 hpu)); have HN6 := Lib.hid hN6; have HDIS := Lib.hid hdis; have HO := Lib.hid hO6; have HPO := Lib.hid hP6
  have K2 := Lib.hid hk2
  clear hX hk2 hf4 hf5 hrow2 h6 hX6 hK6 hO6 hP6 hN6 ho4 ho5 hdis hl9 hl12 hpu hlt
  have hq7 : q = 0 ∨ q = 1 ∨ q = 2 ∨ q = 3 ∨ q = 4 ∨ q = 5 ∨ q = 6 := by omega
  go_upto_region 5 with fail
  show Code.wp _ _ _ _ (((((((w2).setCell ⟨B, 0, none⟩ (.int .i64 k1)).setCell ⟨B, 1, none⟩ (.int .i64 t1)).setCell ⟨B, 2, none⟩ (.int .i64 i1)).setCell ⟨B, 3, none⟩ (.bool y1)).setCell ⟨B, 4, none⟩ (.slice b4 ps1.length d4)).setCell ⟨B, 5, none⟩ (.slice b5 us1.length d5))
  have hrow3 := H6.out.1
  have kZ := H6.out.2
  have hX3 := HX.out
  have hK3 := K6.out
  have hO3 := HO.out
  have hP3 := HPO.out
  clear H6 HX K6 HO HPO c0 c1 c2 c3 c4' c5' f0 f1 f2 f3 f4 f5
  generalize (((((((w2).setCell ⟨B, 0, none⟩ (.int .i64 k1)).setCell ⟨B, 1, none⟩ (.int .i64 t1)).setCell ⟨B, 2, none⟩ (.int .i64 i1)).setCell ⟨B, 3, none⟩ (.bool y1)).setCell ⟨B, 4, none⟩ (.slice b4 ps1.length d4)).setCell ⟨B, 5, none⟩ (.slice b5 us1.length d5)) = W0 at hrow3 kZ hX3 hK3 hO3 hP3 ⊢
  have HROW3 := Lib.hid hrow3; have HX := Lib.hid hX3; have K3 := Lib.hid hK3; have KZ := Lib.hid kZ; have HO := Lib.hid hO3; have HPO := Lib.hid hP3
  clear hrow3 kZ hX3 hK3 hO3 hP3
  rcases hq7 with rfl | rfl | rfl | rfl | rfl | rfl | rfl
  · have hRW : (W0.setCell ⟨B, 0, none⟩ (.int .i64 x)).heap[B]? = some (.cells (recCells x t1 i1 y1 (.slice b4 ps1.length d4) (.slice b5 us1.length d5)) 38 (0, 0)) := set1 HROW3.out (.int .i64 x)
    have hKB : Keep (fun x => x = B) W0 (W0.setCell ⟨B, 0, none⟩ (.int .i64 x)) := (Keep.refl (fun x => x = B) W0).setCell (p := ⟨B, 0, none⟩) (fun _ => rfl) (.int .i64 x)
    have hKW : Keep NoF w (W0.setCell ⟨B, 0, none⟩ (.int .i64 x)) := K3.out.trans hKB (fun _ _ f => f) (fun x hx e => by have := HBB.out; omega)
    have hRX : RecAt (W0.setCell ⟨B, 0, none⟩ (.int .i64 x)) ⟨x, t1, i1, y1, ps1, us1⟩ b4 d4 b5 d5 := ⟨HXI.out, HX.out.tid, HX.out.id, HX.out.parts.keep hKB (fun g hg e => (HN6.out.1 g hg).1 e), HX.out.puts.keep hKB (fun g hg e => (HN6.out.2 g hg).1 e)⟩
    have hfz := free_of_heap HROW3.out 0
    obtain ⟨c0, c1, c2, c3, c4', c5'⟩ := rec_cells HROW3.out
    go_wp2_with fail
    show Code.wp _ _ _ _ (W0.setCell ⟨B, 0, none⟩ (.int .i64 x))
    clear c0 c1 c2 c3 c4' c5' hfz hKB
    generalize W0.setCell ⟨B, 0, none⟩ (.int .i64 x) = WN at hRW hKW hRX ⊢
    have HRW := Lib.hid hRW; have KW := Lib.hid hKW; have HRX := Lib.hid hRX
    clear hRW hKW hRX
    have hc : ∀ W, Keep NoF WN W → RecC W B x t1 i1 y1 (.slice b4 ps1.length d4) (.slice b5 us1.length d5) := fun W hW => rec_cells (row_keep HRW.out hW)
    unfold RecC at hc
    have HC := Lib.hid hc
    obtain ⟨c0, c1, c2, c3, c4', c5'⟩ := HC.out WN (Keep.refl _ _)
    have KK0 : Hid (Keep NoF WN WN) := Keep.refl _ _
    clear hc
    rcases hb : recB ⟨x, t1, i1, y1, ps1, us1⟩ with _ | _
    · have HEN := Lib.hid (fun W h => encode_f (x) (t1) (i1) (y1) (ps1) (us1) (b4) (d4) (b5) (d5) hb W h)
      have hnil := fun W => Lib.run_eql_slice_nil (P := Try.prog) W 24 5 none 0 0 0 0 Try.underlying24
      have HNIL := Lib.hid hnil
      clear hnil
      have hkr := fun W h => krecord_op (x) (t1) (i1) (y1) (ps1) (us1) (b4) (d4) (b5) (d5) false hb W h
      have hrr := fun W h => rrecord_op (x) (t1) (i1) (y1) (ps1) (us1) (b4) (d4) (b5) (d5) false hb W h
      have HKR := Lib.hid hkr; have HRR := Lib.hid hrr
      clear hb hkr hrr
      go_wp2_with fail
      go_region_held3 (fun W' : World => W'.cell? ⟨B, 0, none⟩ = some (.int .i64 x) ∧ W'.cell? ⟨B, 1, none⟩ = some (.int .i64 t1) ∧ W'.cell? ⟨B, 2, none⟩ = some (.int .i64 i1) ∧ W'.cell? ⟨B, 3, none⟩ = some (.bool y1) ∧ W'.cell? ⟨B, 4, none⟩ = some (.slice b4 ps1.length d4) ∧ W'.cell? ⟨B, 5, none⟩ = some (.slice b5 us1.length d5))
        (first | assumption | exact HC.out _ KD.out | exact HC.out _ KCC.out | exact HC.out _ KBB.out | exact HC.out _ KA.out | exact HC.out _ KK0.out.drew | go_keep)
        (first
        | (go_at_call 31; refine (HKR.out _ (HRX.out.keep (Keep.refl NoF WN).drew)).mono ?_; rintro e wa ⟨rfl, hka⟩; have KA := Lib.hid (hka.of_drew : Keep NoF WN wa); clear hka)
        | (go_at_call 32; refine (HRR.out _ (HRX.out.keep KCC.out)).mono ?_; rintro e wd ⟨rfl, hkd⟩; have KD := Lib.hid (KCC.out.trans' hkd); clear hkd)
        | (go_at_call 32; refine (HRR.out _ (HRX.out.keep KA.out)).mono ?_; rintro e wb ⟨rfl, hkb⟩; have KBB := Lib.hid (KA.out.trans' hkb); clear hkb)
        | (go_at_call 35; refine (HEN.out _ (HRX.out.keep KBB.out)).mono ?_; rintro e wc ⟨rfl, hkc⟩; have KCC := Lib.hid (KBB.out.trans' hkc); have hn1 := HNIL.out wc; clear hkc))
      all_goals
        go_wp2_with fail
        go_ret
        exact ⟨rfl, KW.out.trans' KD.out⟩
    · obtain ⟨ne, hne⟩ : ∃ n, (encB ⟨x, t1, i1, y1, ps1, us1⟩).length = n := ⟨_, rfl⟩
      have HEN := Lib.hid (fun W h => encode_t (x) (t1) (i1) (y1) (ps1) (us1) (b4) (d4) (b5) (d5) hb ne hne W h)
      clear hne
      have hkr := fun W h => krecord_op (x) (t1) (i1) (y1) (ps1) (us1) (b4) (d4) (b5) (d5) true hb W h
      have hrr := fun W h => rrecord_op (x) (t1) (i1) (y1) (ps1) (us1) (b4) (d4) (b5) (d5) true hb W h
      have HKR := Lib.hid hkr; have HRR := Lib.hid hrr
      clear hb hkr hrr
      go_wp2_with fail
      go_region_held3 (fun W' : World => W'.cell? ⟨B, 0, none⟩ = some (.int .i64 x) ∧ W'.cell? ⟨B, 1, none⟩ = some (.int .i64 t1) ∧ W'.cell? ⟨B, 2, none⟩ = some (.int .i64 i1) ∧ W'.cell? ⟨B, 3, none⟩ = some (.bool y1) ∧ W'.cell? ⟨B, 4, none⟩ = some (.slice b4 ps1.length d4) ∧ W'.cell? ⟨B, 5, none⟩ = some (.slice b5 us1.length d5))
        (first | assumption | exact HC.out _ KD.out | exact HC.out _ KCC.out | exact HC.out _ KBB.out | exact HC.out _ KA.out | exact HC.out _ KK0.out.drew | go_keep)
        (first
        | (go_at_call 31; refine (HKR.out _ (HRX.out.keep (Keep.refl NoF WN).drew)).mono ?_; rintro e wa ⟨rfl, hka⟩; have KA := Lib.hid (hka.of_drew : Keep NoF WN wa); clear hka)
        | (go_at_call 32; refine (HRR.out _ (HRX.out.keep KCC.out)).mono ?_; rintro e wd ⟨rfl, hkd⟩; have KD := Lib.hid (KCC.out.trans' hkd); clear hkd)
        | (go_at_call 32; refine (HRR.out _ (HRX.out.keep KA.out)).mono ?_; rintro e wb ⟨rfl, hkb⟩; have KBB := Lib.hid (KA.out.trans' hkb); clear hkb)
        | (go_at_call 35; refine (HEN.out _ (HRX.out.keep KBB.out)).mono ?_; rintro e wc ⟨ae, ce, rfl, _, hkc, _⟩; have KCC := Lib.hid (KBB.out.trans' hkc); have hn1 := Lib.run_eql_slice_nil (P := Try.prog) wc 24 5 (some ae) ne ce 0 0 Try.underlying24; clear hkc))
      all_goals
        go_wp2_with fail
        go_ret
        exact ⟨rfl, KW.out.trans' KD.out⟩
  · have hRW : (W0.setCell ⟨B, 1, none⟩ (.int .i64 x)).heap[B]? = some (.cells (recCells k1 x i1 y1 (.slice b4 ps1.length d4) (.slice b5 us1.length d5)) 38 (0, 0)) := set1 HROW3.out (.int .i64 x)
    have hKB : Keep (fun x => x = B) W0 (W0.setCell ⟨B, 1, none⟩ (.int .i64 x)) := (Keep.refl (fun x => x = B) W0).setCell (p := ⟨B, 1, none⟩) (fun _ => rfl) (.int .i64 x)
    have hKW : Keep NoF w (W0.setCell ⟨B, 1, none⟩ (.int .i64 x)) := K3.out.trans hKB (fun _ _ f => f) (fun x hx e => by have := HBB.out; omega)
    have hRX : RecAt (W0.setCell ⟨B, 1, none⟩ (.int .i64 x)) ⟨k1, x, i1, y1, ps1, us1⟩ b4 d4 b5 d5 := ⟨HX.out.kind, HXI.out, HX.out.id, HX.out.parts.keep hKB (fun g hg e => (HN6.out.1 g hg).1 e), HX.out.puts.keep hKB (fun g hg e => (HN6.out.2 g hg).1 e)⟩
    have hfz := free_of_heap HROW3.out 1
    obtain ⟨c0, c1, c2, c3, c4', c5'⟩ := rec_cells HROW3.out
    go_wp2_with fail
    show Code.wp _ _ _ _ (W0.setCell ⟨B, 1, none⟩ (.int .i64 x))
    clear c0 c1 c2 c3 c4' c5' hfz hKB
    generalize W0.setCell ⟨B, 1, none⟩ (.int .i64 x) = WN at hRW hKW hRX ⊢
    have HRW := Lib.hid hRW; have KW := Lib.hid hKW; have HRX := Lib.hid hRX
    clear hRW hKW hRX
    have hc : ∀ W, Keep NoF WN W → RecC W B k1 x i1 y1 (.slice b4 ps1.length d4) (.slice b5 us1.length d5) := fun W hW => rec_cells (row_keep HRW.out hW)
    unfold RecC at hc
    have HC := Lib.hid hc
    obtain ⟨c0, c1, c2, c3, c4', c5'⟩ := HC.out WN (Keep.refl _ _)
    have KK0 : Hid (Keep NoF WN WN) := Keep.refl _ _
    clear hc
    rcases hb : recB ⟨k1, x, i1, y1, ps1, us1⟩ with _ | _
    · have HEN := Lib.hid (fun W h => encode_f (k1) (x) (i1) (y1) (ps1) (us1) (b4) (d4) (b5) (d5) hb W h)
      have hnil := fun W => Lib.run_eql_slice_nil (P := Try.prog) W 24 5 none 0 0 0 0 Try.underlying24
      have HNIL := Lib.hid hnil
      clear hnil
      have hkr := fun W h => krecord_op (k1) (x) (i1) (y1) (ps1) (us1) (b4) (d4) (b5) (d5) false hb W h
      have hrr := fun W h => rrecord_op (k1) (x) (i1) (y1) (ps1) (us1) (b4) (d4) (b5) (d5) false hb W h
      have HKR := Lib.hid hkr; have HRR := Lib.hid hrr
      clear hb hkr hrr
      go_wp2_with fail
      go_region_held3 (fun W' : World => W'.cell? ⟨B, 0, none⟩ = some (.int .i64 k1) ∧ W'.cell? ⟨B, 1, none⟩ = some (.int .i64 x) ∧ W'.cell? ⟨B, 2, none⟩ = some (.int .i64 i1) ∧ W'.cell? ⟨B, 3, none⟩ = some (.bool y1) ∧ W'.cell? ⟨B, 4, none⟩ = some (.slice b4 ps1.length d4) ∧ W'.cell? ⟨B, 5, none⟩ = some (.slice b5 us1.length d5))
        (first | assumption | exact HC.out _ KD.out | exact HC.out _ KCC.out | exact HC.out _ KBB.out | exact HC.out _ KA.out | exact HC.out _ KK0.out.drew | go_keep)
        (first
        | (go_at_call 31; refine (HKR.out _ (HRX.out.keep (Keep.refl NoF WN).drew)).mono ?_; rintro e wa ⟨rfl, hka⟩; have KA := Lib.hid (hka.of_drew : Keep NoF WN wa); clear hka)
        | (go_at_call 32; refine (HRR.out _ (HRX.out.keep KCC.out)).mono ?_; rintro e wd ⟨rfl, hkd⟩; have KD := Lib.hid (KCC.out.trans' hkd); clear hkd)
        | (go_at_call 32; refine (HRR.out _ (HRX.out.keep KA.out)).mono ?_; rintro e wb ⟨rfl, hkb⟩; have KBB := Lib.hid (KA.out.trans' hkb); clear hkb)
        | (go_at_call 35; refine (HEN.out _ (HRX.out.keep KBB.out)).mono ?_; rintro e wc ⟨rfl, hkc⟩; have KCC := Lib.hid (KBB.out.trans' hkc); have hn1 := HNIL.out wc; clear hkc))
      all_goals
        go_wp2_with fail
        go_ret
        exact ⟨rfl, KW.out.trans' KD.out⟩
    · obtain ⟨ne, hne⟩ : ∃ n, (encB ⟨k1, x, i1, y1, ps1, us1⟩).length = n := ⟨_, rfl⟩
      have HEN := Lib.hid (fun W h => encode_t (k1) (x) (i1) (y1) (ps1) (us1) (b4) (d4) (b5) (d5) hb ne hne W h)
      clear hne
      have hkr := fun W h => krecord_op (k1) (x) (i1) (y1) (ps1) (us1) (b4) (d4) (b5) (d5) true hb W h
      have hrr := fun W h => rrecord_op (k1) (x) (i1) (y1) (ps1) (us1) (b4) (d4) (b5) (d5) true hb W h
      have HKR := Lib.hid hkr; have HRR := Lib.hid hrr
      clear hb hkr hrr
      go_wp2_with fail
      go_region_held3 (fun W' : World => W'.cell? ⟨B, 0, none⟩ = some (.int .i64 k1) ∧ W'.cell? ⟨B, 1, none⟩ = some (.int .i64 x) ∧ W'.cell? ⟨B, 2, none⟩ = some (.int .i64 i1) ∧ W'.cell? ⟨B, 3, none⟩ = some (.bool y1) ∧ W'.cell? ⟨B, 4, none⟩ = some (.slice b4 ps1.length d4) ∧ W'.cell? ⟨B, 5, none⟩ = some (.slice b5 us1.length d5))
        (first | assumption | exact HC.out _ KD.out | exact HC.out _ KCC.out | exact HC.out _ KBB.out | exact HC.out _ KA.out | exact HC.out _ KK0.out.drew | go_keep)
        (first
        | (go_at_call 31; refine (HKR.out _ (HRX.out.keep (Keep.refl NoF WN).drew)).mono ?_; rintro e wa ⟨rfl, hka⟩; have KA := Lib.hid (hka.of_drew : Keep NoF WN wa); clear hka)
        | (go_at_call 32; refine (HRR.out _ (HRX.out.keep KCC.out)).mono ?_; rintro e wd ⟨rfl, hkd⟩; have KD := Lib.hid (KCC.out.trans' hkd); clear hkd)
        | (go_at_call 32; refine (HRR.out _ (HRX.out.keep KA.out)).mono ?_; rintro e wb ⟨rfl, hkb⟩; have KBB := Lib.hid (KA.out.trans' hkb); clear hkb)
        | (go_at_call 35; refine (HEN.out _ (HRX.out.keep KBB.out)).mono ?_; rintro e wc ⟨ae, ce, rfl, _, hkc, _⟩; have KCC := Lib.hid (KBB.out.trans' hkc); have hn1 := Lib.run_eql_slice_nil (P := Try.prog) wc 24 5 (some ae) ne ce 0 0 Try.underlying24; clear hkc))
      all_goals
        go_wp2_with fail
        go_ret
        exact ⟨rfl, KW.out.trans' KD.out⟩
  · have hRW : (W0.setCell ⟨B, 2, none⟩ (.int .i64 x)).heap[B]? = some (.cells (recCells k1 t1 x y1 (.slice b4 ps1.length d4) (.slice b5 us1.length d5)) 38 (0, 0)) := set1 HROW3.out (.int .i64 x)
    have hKB : Keep (fun x => x = B) W0 (W0.setCell ⟨B, 2, none⟩ (.int .i64 x)) := (Keep.refl (fun x => x = B) W0).setCell (p := ⟨B, 2, none⟩) (fun _ => rfl) (.int .i64 x)
    have hKW : Keep NoF w (W0.setCell ⟨B, 2, none⟩ (.int .i64 x)) := K3.out.trans hKB (fun _ _ f => f) (fun x hx e => by have := HBB.out; omega)
    have hRX : RecAt (W0.setCell ⟨B, 2, none⟩ (.int .i64 x)) ⟨k1, t1, x, y1, ps1, us1⟩ b4 d4 b5 d5 := ⟨HX.out.kind, HX.out.tid, HXI.out, HX.out.parts.keep hKB (fun g hg e => (HN6.out.1 g hg).1 e), HX.out.puts.keep hKB (fun g hg e => (HN6.out.2 g hg).1 e)⟩
    have hfz := free_of_heap HROW3.out 2
    obtain ⟨c0, c1, c2, c3, c4', c5'⟩ := rec_cells HROW3.out
    go_wp2_with fail
    show Code.wp _ _ _ _ (W0.setCell ⟨B, 2, none⟩ (.int .i64 x))
    clear c0 c1 c2 c3 c4' c5' hfz hKB
    generalize W0.setCell ⟨B, 2, none⟩ (.int .i64 x) = WN at hRW hKW hRX ⊢
    have HRW := Lib.hid hRW; have KW := Lib.hid hKW; have HRX := Lib.hid hRX
    clear hRW hKW hRX
    have hc : ∀ W, Keep NoF WN W → RecC W B k1 t1 x y1 (.slice b4 ps1.length d4) (.slice b5 us1.length d5) := fun W hW => rec_cells (row_keep HRW.out hW)
    unfold RecC at hc
    have HC := Lib.hid hc
    obtain ⟨c0, c1, c2, c3, c4', c5'⟩ := HC.out WN (Keep.refl _ _)
    have KK0 : Hid (Keep NoF WN WN) := Keep.refl _ _
    clear hc
    rcases hb : recB ⟨k1, t1, x, y1, ps1, us1⟩ with _ | _
    · have HEN := Lib.hid (fun W h => encode_f (k1) (t1) (x) (y1) (ps1) (us1) (b4) (d4) (b5) (d5) hb W h)
      have hnil := fun W => Lib.run_eql_slice_nil (P := Try.prog) W 24 5 none 0 0 0 0 Try.underlying24
      have HNIL := Lib.hid hnil
      clear hnil
      have hkr := fun W h => krecord_op (k1) (t1) (x) (y1) (ps1) (us1) (b4) (d4) (b5) (d5) false hb W h
      have hrr := fun W h => rrecord_op (k1) (t1) (x) (y1) (ps1) (us1) (b4) (d4) (b5) (d5) false hb W h
      have HKR := Lib.hid hkr; have HRR := Lib.hid hrr
      clear hb hkr hrr
      go_wp2_with fail
      go_region_held3 (fun W' : World => W'.cell? ⟨B, 0, none⟩ = some (.int .i64 k1) ∧ W'.cell? ⟨B, 1, none⟩ = some (.int .i64 t1) ∧ W'.cell? ⟨B, 2, none⟩ = some (.int .i64 x) ∧ W'.cell? ⟨B, 3, none⟩ = some (.bool y1) ∧ W'.cell? ⟨B, 4, none⟩ = some (.slice b4 ps1.length d4) ∧ W'.cell? ⟨B, 5, none⟩ = some (.slice b5 us1.length d5))
        (first | assumption | exact HC.out _ KD.out | exact HC.out _ KCC.out | exact HC.out _ KBB.out | exact HC.out _ KA.out | exact HC.out _ KK0.out.drew | go_keep)
        (first
        | (go_at_call 31; refine (HKR.out _ (HRX.out.keep (Keep.refl NoF WN).drew)).mono ?_; rintro e wa ⟨rfl, hka⟩; have KA := Lib.hid (hka.of_drew : Keep NoF WN wa); clear hka)
        | (go_at_call 32; refine (HRR.out _ (HRX.out.keep KCC.out)).mono ?_; rintro e wd ⟨rfl, hkd⟩; have KD := Lib.hid (KCC.out.trans' hkd); clear hkd)
        | (go_at_call 32; refine (HRR.out _ (HRX.out.keep KA.out)).mono ?_; rintro e wb ⟨rfl, hkb⟩; have KBB := Lib.hid (KA.out.trans' hkb); clear hkb)
        | (go_at_call 35; refine (HEN.out _ (HRX.out.keep KBB.out)).mono ?_; rintro e wc ⟨rfl, hkc⟩; have KCC := Lib.hid (KBB.out.trans' hkc); have hn1 := HNIL.out wc; clear hkc))
      all_goals
        go_wp2_with fail
        go_ret
        exact ⟨rfl, KW.out.trans' KD.out⟩
    · obtain ⟨ne, hne⟩ : ∃ n, (encB ⟨k1, t1, x, y1, ps1, us1⟩).length = n := ⟨_, rfl⟩
      have HEN := Lib.hid (fun W h => encode_t (k1) (t1) (x) (y1) (ps1) (us1) (b4) (d4) (b5) (d5) hb ne hne W h)
      clear hne
      have hkr := fun W h => krecord_op (k1) (t1) (x) (y1) (ps1) (us1) (b4) (d4) (b5) (d5) true hb W h
      have hrr := fun W h => rrecord_op (k1) (t1) (x) (y1) (ps1) (us1) (b4) (d4) (b5) (d5) true hb W h
      have HKR := Lib.hid hkr; have HRR := Lib.hid hrr
      clear hb hkr hrr
      go_wp2_with fail
      go_region_held3 (fun W' : World => W'.cell? ⟨B, 0, none⟩ = some (.int .i64 k1) ∧ W'.cell? ⟨B, 1, none⟩ = some (.int .i64 t1) ∧ W'.cell? ⟨B, 2, none⟩ = some (.int .i64 x) ∧ W'.cell? ⟨B, 3, none⟩ = some (.bool y1) ∧ W'.cell? ⟨B, 4, none⟩ = some (.slice b4 ps1.length d4) ∧ W'.cell? ⟨B, 5, none⟩ = some (.slice b5 us1.length d5))
        (first | assumption | exact HC.out _ KD.out | exact HC.out _ KCC.out | exact HC.out _ KBB.out | exact HC.out _ KA.out | exact HC.out _ KK0.out.drew | go_keep)
        (first
        | (go_at_call 31; refine (HKR.out _ (HRX.out.keep (Keep.refl NoF WN).drew)).mono ?_; rintro e wa ⟨rfl, hka⟩; have KA := Lib.hid (hka.of_drew : Keep NoF WN wa); clear hka)
        | (go_at_call 32; refine (HRR.out _ (HRX.out.keep KCC.out)).mono ?_; rintro e wd ⟨rfl, hkd⟩; have KD := Lib.hid (KCC.out.trans' hkd); clear hkd)
        | (go_at_call 32; refine (HRR.out _ (HRX.out.keep KA.out)).mono ?_; rintro e wb ⟨rfl, hkb⟩; have KBB := Lib.hid (KA.out.trans' hkb); clear hkb)
        | (go_at_call 35; refine (HEN.out _ (HRX.out.keep KBB.out)).mono ?_; rintro e wc ⟨ae, ce, rfl, _, hkc, _⟩; have KCC := Lib.hid (KBB.out.trans' hkc); have hn1 := Lib.run_eql_slice_nil (P := Try.prog) wc 24 5 (some ae) ne ce 0 0 Try.underlying24; clear hkc))
      all_goals
        go_wp2_with fail
        go_ret
        exact ⟨rfl, KW.out.trans' KD.out⟩
  · have hRW : (W0.setCell ⟨B, 3, none⟩ (.bool (!y1))).heap[B]? = some (.cells (recCells k1 t1 i1 (!y1) (.slice b4 ps1.length d4) (.slice b5 us1.length d5)) 38 (0, 0)) := set1 HROW3.out (.bool (!y1))
    have hKB : Keep (fun x => x = B) W0 (W0.setCell ⟨B, 3, none⟩ (.bool (!y1))) := (Keep.refl (fun x => x = B) W0).setCell (p := ⟨B, 3, none⟩) (fun _ => rfl) (.bool (!y1))
    have hKW : Keep NoF w (W0.setCell ⟨B, 3, none⟩ (.bool (!y1))) := K3.out.trans hKB (fun _ _ f => f) (fun x hx e => by have := HBB.out; omega)
    have hRX : RecAt (W0.setCell ⟨B, 3, none⟩ (.bool (!y1))) ⟨k1, t1, i1, (!y1), ps1, us1⟩ b4 d4 b5 d5 := ⟨HX.out.kind, HX.out.tid, HX.out.id, HX.out.parts.keep hKB (fun g hg e => (HN6.out.1 g hg).1 e), HX.out.puts.keep hKB (fun g hg e => (HN6.out.2 g hg).1 e)⟩
    have hfz := free_of_heap HROW3.out 3
    obtain ⟨c0, c1, c2, c3, c4', c5'⟩ := rec_cells HROW3.out
    go_wp2_with fail
    show Code.wp _ _ _ _ (W0.setCell ⟨B, 3, none⟩ (.bool (!y1)))
    clear c0 c1 c2 c3 c4' c5' hfz hKB
    generalize W0.setCell ⟨B, 3, none⟩ (.bool (!y1)) = WN at hRW hKW hRX ⊢
    have HRW := Lib.hid hRW; have KW := Lib.hid hKW; have HRX := Lib.hid hRX
    clear hRW hKW hRX
    have hc : ∀ W, Keep NoF WN W → RecC W B k1 t1 i1 (!y1) (.slice b4 ps1.length d4) (.slice b5 us1.length d5) := fun W hW => rec_cells (row_keep HRW.out hW)
    unfold RecC at hc
    have HC := Lib.hid hc
    obtain ⟨c0, c1, c2, c3, c4', c5'⟩ := HC.out WN (Keep.refl _ _)
    have KK0 : Hid (Keep NoF WN WN) := Keep.refl _ _
    clear hc
    rcases hb : recB ⟨k1, t1, i1, (!y1), ps1, us1⟩ with _ | _
    · have HEN := Lib.hid (fun W h => encode_f (k1) (t1) (i1) ((!y1)) (ps1) (us1) (b4) (d4) (b5) (d5) hb W h)
      have hnil := fun W => Lib.run_eql_slice_nil (P := Try.prog) W 24 5 none 0 0 0 0 Try.underlying24
      have HNIL := Lib.hid hnil
      clear hnil
      have hkr := fun W h => krecord_op (k1) (t1) (i1) ((!y1)) (ps1) (us1) (b4) (d4) (b5) (d5) false hb W h
      have hrr := fun W h => rrecord_op (k1) (t1) (i1) ((!y1)) (ps1) (us1) (b4) (d4) (b5) (d5) false hb W h
      have HKR := Lib.hid hkr; have HRR := Lib.hid hrr
      clear hb hkr hrr
      go_wp2_with fail
      go_region_held3 (fun W' : World => W'.cell? ⟨B, 0, none⟩ = some (.int .i64 k1) ∧ W'.cell? ⟨B, 1, none⟩ = some (.int .i64 t1) ∧ W'.cell? ⟨B, 2, none⟩ = some (.int .i64 i1) ∧ W'.cell? ⟨B, 3, none⟩ = some (.bool (!y1)) ∧ W'.cell? ⟨B, 4, none⟩ = some (.slice b4 ps1.length d4) ∧ W'.cell? ⟨B, 5, none⟩ = some (.slice b5 us1.length d5))
        (first | assumption | exact HC.out _ KD.out | exact HC.out _ KCC.out | exact HC.out _ KBB.out | exact HC.out _ KA.out | exact HC.out _ KK0.out.drew | go_keep)
        (first
        | (go_at_call 31; refine (HKR.out _ (HRX.out.keep (Keep.refl NoF WN).drew)).mono ?_; rintro e wa ⟨rfl, hka⟩; have KA := Lib.hid (hka.of_drew : Keep NoF WN wa); clear hka)
        | (go_at_call 32; refine (HRR.out _ (HRX.out.keep KCC.out)).mono ?_; rintro e wd ⟨rfl, hkd⟩; have KD := Lib.hid (KCC.out.trans' hkd); clear hkd)
        | (go_at_call 32; refine (HRR.out _ (HRX.out.keep KA.out)).mono ?_; rintro e wb ⟨rfl, hkb⟩; have KBB := Lib.hid (KA.out.trans' hkb); clear hkb)
        | (go_at_call 35; refine (HEN.out _ (HRX.out.keep KBB.out)).mono ?_; rintro e wc ⟨rfl, hkc⟩; have KCC := Lib.hid (KBB.out.trans' hkc); have hn1 := HNIL.out wc; clear hkc))
      all_goals
        go_wp2_with fail
        go_ret
        exact ⟨rfl, KW.out.trans' KD.out⟩
    · obtain ⟨ne, hne⟩ : ∃ n, (encB ⟨k1, t1, i1, (!y1), ps1, us1⟩).length = n := ⟨_, rfl⟩
      have HEN := Lib.hid (fun W h => encode_t (k1) (t1) (i1) ((!y1)) (ps1) (us1) (b4) (d4) (b5) (d5) hb ne hne W h)
      clear hne
      have hkr := fun W h => krecord_op (k1) (t1) (i1) ((!y1)) (ps1) (us1) (b4) (d4) (b5) (d5) true hb W h
      have hrr := fun W h => rrecord_op (k1) (t1) (i1) ((!y1)) (ps1) (us1) (b4) (d4) (b5) (d5) true hb W h
      have HKR := Lib.hid hkr; have HRR := Lib.hid hrr
      clear hb hkr hrr
      go_wp2_with fail
      go_region_held3 (fun W' : World => W'.cell? ⟨B, 0, none⟩ = some (.int .i64 k1) ∧ W'.cell? ⟨B, 1, none⟩ = some (.int .i64 t1) ∧ W'.cell? ⟨B, 2, none⟩ = some (.int .i64 i1) ∧ W'.cell? ⟨B, 3, none⟩ = some (.bool (!y1)) ∧ W'.cell? ⟨B, 4, none⟩ = some (.slice b4 ps1.length d4) ∧ W'.cell? ⟨B, 5, none⟩ = some (.slice b5 us1.length d5))
        (first | assumption | exact HC.out _ KD.out | exact HC.out _ KCC.out | exact HC.out _ KBB.out | exact HC.out _ KA.out | exact HC.out _ KK0.out.drew | go_keep)
        (first
        | (go_at_call 31; refine (HKR.out _ (HRX.out.keep (Keep.refl NoF WN).drew)).mono ?_; rintro e wa ⟨rfl, hka⟩; have KA := Lib.hid (hka.of_drew : Keep NoF WN wa); clear hka)
        | (go_at_call 32; refine (HRR.out _ (HRX.out.keep KCC.out)).mono ?_; rintro e wd ⟨rfl, hkd⟩; have KD := Lib.hid (KCC.out.trans' hkd); clear hkd)
        | (go_at_call 32; refine (HRR.out _ (HRX.out.keep KA.out)).mono ?_; rintro e wb ⟨rfl, hkb⟩; have KBB := Lib.hid (KA.out.trans' hkb); clear hkb)
        | (go_at_call 35; refine (HEN.out _ (HRX.out.keep KBB.out)).mono ?_; rintro e wc ⟨ae, ce, rfl, _, hkc, _⟩; have KCC := Lib.hid (KBB.out.trans' hkc); have hn1 := Lib.run_eql_slice_nil (P := Try.prog) wc 24 5 (some ae) ne ce 0 0 Try.underlying24; clear hkc))
      all_goals
        go_wp2_with fail
        go_ret
        exact ⟨rfl, KW.out.trans' KD.out⟩
  · obtain ⟨c0, c1, c2, c3, c4', c5'⟩ := rec_cells HROW3.out
    have hO0 := HO.out
    unfold OwnI at hO0
    have HO0 := Lib.hid hO0
    have HL1 : Hid (ps1.length ≤ 9 ∧ us1.length ≤ 12) := Lib.hid ⟨HLN.out.1, HLN.out.2.1⟩
    clear hO0
    go_wp2_with (at_builtin; refine wpList_app 35 35 3 (.int .i64 0) 1 8 Try.underlying35 infoI64 rfl (by decide) (by decide) rfl rfl rfl rfl (HO0.out.alloc _) (Src.one Try.underlying35 (heap_new W0 _) rfl 1) (by have := HL1.out; omega) ?_)
    intro a9 c9 w9 hown hgr hfr
    have hkO : Keep (fun g => blockOf b4 = some g) W0 w9 := ((Keep.refl (fun g => blockOf b4 = some g) W0).alloc _).grown hgr (fun g _ e => by rw [own_blk] at e; exact e)
    have hO9 : OwnI w9 (.slice a9 (ps1.length + 1) c9) (ps1 ++ [x]) := by rw [OwnI, List.length_append, ivs, List.map_append]; exact hown
    obtain ⟨a7, c7, e7, s6, bk6⟩ := hO9.sl (fun n hn => by rcases List.mem_append.1 hn with h | h; exact HX.out.parts.2.2.1 n h; rw [List.mem_singleton.1 h]; exact HXI.out)
    obtain ⟨rfl, -, rfl⟩ : a9 = a7 ∧ ps1.length + 1 = (ps1 ++ [x]).length ∧ c9 = c7 := by injection e7 with x y z; exact ⟨x, y, z⟩
    have hrow9 := HROW3.out
    rw [← hkO.block B (lt_of_heap HROW3.out) (fun e => (HN6.out.1 B e).1 rfl)] at hrow9
    have hk9 : Keep NoF w w9 := K3.out.trans hkO (fun _ _ f => f) (fun g hg e => by have := (HN6.out.1 g e).2; omega)
    have hab : ∀ g, blockOf a9 = some g → g ≠ B := fun g hg e => by
      rw [bk6] at hg
      rcases hfr with f | f
      · rw [f, own_blk] at hg; exact (HN6.out.1 g hg).1 e
      · rw [f] at hg; injection hg with hg; have := lt_of_heap HROW3.out; (try simp at hg); omega
    have hpu : SlP w9 b5 d5 us1 := HX.out.puts.keep hkO (fun g hg e => HDIS.out g e hg)
    have hRW : (w9.setCell ⟨B, 4, none⟩ (.slice a9 (ps1.length + 1) c9)).heap[B]? = some (.cells (recCells k1 t1 i1 y1 (.slice a9 (ps1.length + 1) c9) (.slice b5 us1.length d5)) 38 (0, 0)) := set1 hrow9 (.slice a9 (ps1.length + 1) c9)
    have hKB : Keep (fun x => x = B) w9 (w9.setCell ⟨B, 4, none⟩ (.slice a9 (ps1.length + 1) c9)) := (Keep.refl (fun x => x = B) w9).setCell (p := ⟨B, 4, none⟩) (fun _ => rfl) (.slice a9 (ps1.length + 1) c9)
    have hKW : Keep NoF w (w9.setCell ⟨B, 4, none⟩ (.slice a9 (ps1.length + 1) c9)) := hk9.trans hKB (fun _ _ f => f) (fun x hx e => by have := HBB.out; omega)
    have hRX : RecAt (w9.setCell ⟨B, 4, none⟩ (.slice a9 (ps1.length + 1) c9)) ⟨k1, t1, i1, y1, ps1 ++ [x], us1⟩ a9 c9 b5 d5 := ⟨HX.out.kind, HX.out.tid, HX.out.id, s6.keep hKB (fun g hg e => hab g hg e), hpu.keep hKB (fun g hg e => (HN6.out.2 g hg).1 e)⟩
    have hfz := free_of_heap hrow9 4
    have c49 := cell_of_heap hrow9 4
    simp [recCells] at c49
    clear hown hgr hfr hO9 s6 bk6 e7 hkO hk9 hab hpu hKB hrow9
    go_wp2_with fail
    show Code.wp _ _ _ _ (w9.setCell ⟨B, 4, none⟩ (.slice a9 (ps1.length + 1) c9))
    clear c0 c1 c2 c3 c4' c5' hfz c49
    generalize w9.setCell ⟨B, 4, none⟩ (.slice a9 (ps1.length + 1) c9) = WN at hRW hKW hRX ⊢
    have HRW := Lib.hid hRW; have KW := Lib.hid hKW; have HRX := Lib.hid hRX
    clear hRW hKW hRX
    obtain ⟨pz, hpz⟩ : ∃ l, ps1 ++ [x] = l := ⟨_, rfl⟩
    rw [hpz] at HRX
    have HUL : Hid (pz.length = ps1.length + 1) := Lib.hid (by rw [← hpz]; simp)
    clear hpz
    have hc : ∀ W, Keep NoF WN W → RecC W B k1 t1 i1 y1 (.slice a9 (ps1.length + 1) c9) (.slice b5 us1.length d5) := fun W hW => rec_cells (row_keep HRW.out hW)
    unfold RecC at hc
    have HC := Lib.hid hc
    obtain ⟨c0, c1, c2, c3, c4', c5'⟩ := HC.out WN (Keep.refl _ _)
    have KK0 : Hid (Keep NoF WN WN) := Keep.refl _ _
    clear hc
    rcases hb : recB ⟨k1, t1, i1, y1, pz, us1⟩ with _ | _
    · have HEN := Lib.hid (fun W h => encode_f (k1) (t1) (i1) (y1) (pz) (us1) (a9) (c9) (b5) (d5) hb W h)
      have hnil := fun W => Lib.run_eql_slice_nil (P := Try.prog) W 24 5 none 0 0 0 0 Try.underlying24
      have HNIL := Lib.hid hnil
      clear hnil
      have hkr := fun W h => krecord_op (k1) (t1) (i1) (y1) (pz) (us1) (a9) (c9) (b5) (d5) false hb W h
      have hrr := fun W h => rrecord_op (k1) (t1) (i1) (y1) (pz) (us1) (a9) (c9) (b5) (d5) false hb W h
      have hen := HEN.out
      clear HEN
      simp only [HUL.out] at hkr hrr hen
      have HEN := Lib.hid hen
      clear hen
      have HKR := Lib.hid hkr; have HRR := Lib.hid hrr
      clear hb hkr hrr
      go_wp2_with fail
      go_region_held3 (fun W' : World => W'.cell? ⟨B, 0, none⟩ = some (.int .i64 k1) ∧ W'.cell? ⟨B, 1, none⟩ = some (.int .i64 t1) ∧ W'.cell? ⟨B, 2, none⟩ = some (.int .i64 i1) ∧ W'.cell? ⟨B, 3, none⟩ = some (.bool y1) ∧ W'.cell? ⟨B, 4, none⟩ = some (.slice a9 (ps1.length + 1) c9) ∧ W'.cell? ⟨B, 5, none⟩ = some (.slice b5 us1.length d5))
        (first | assumption | exact HC.out _ KD.out | exact HC.out _ KCC.out | exact HC.out _ KBB.out | exact HC.out _ KA.out | exact HC.out _ KK0.out.drew | go_keep)
        (first
        | (go_at_call 31; refine (HKR.out _ (HRX.out.keep (Keep.refl NoF WN).drew)).mono ?_; rintro e wa ⟨rfl, hka⟩; have KA := Lib.hid (hka.of_drew : Keep NoF WN wa); clear hka)
        | (go_at_call 32; refine (HRR.out _ (HRX.out.keep KCC.out)).mono ?_; rintro e wd ⟨rfl, hkd⟩; have KD := Lib.hid (KCC.out.trans' hkd); clear hkd)
        | (go_at_call 32; refine (HRR.out _ (HRX.out.keep KA.out)).mono ?_; rintro e wb ⟨rfl, hkb⟩; have KBB := Lib.hid (KA.out.trans' hkb); clear hkb)
        | (go_at_call 35; refine (HEN.out _ (HRX.out.keep KBB.out)).mono ?_; rintro e wc ⟨rfl, hkc⟩; have KCC := Lib.hid (KBB.out.trans' hkc); have hn1 := HNIL.out wc; clear hkc))
      all_goals
        go_wp2_with fail
        go_ret
        exact ⟨rfl, KW.out.trans' KD.out⟩
    · obtain ⟨ne, hne⟩ : ∃ n, (encB ⟨k1, t1, i1, y1, pz, us1⟩).length = n := ⟨_, rfl⟩
      have HEN := Lib.hid (fun W h => encode_t (k1) (t1) (i1) (y1) (pz) (us1) (a9) (c9) (b5) (d5) hb ne hne W h)
      clear hne
      have hkr := fun W h => krecord_op (k1) (t1) (i1) (y1) (pz) (us1) (a9) (c9) (b5) (d5) true hb W h
      have hrr := fun W h => rrecord_op (k1) (t1) (i1) (y1) (pz) (us1) (a9) (c9) (b5) (d5) true hb W h
      have hen := HEN.out
      clear HEN
      simp only [HUL.out] at hkr hrr hen
      have HEN := Lib.hid hen
      clear hen
      have HKR := Lib.hid hkr; have HRR := Lib.hid hrr
      clear hb hkr hrr
      go_wp2_with fail
      go_region_held3 (fun W' : World => W'.cell? ⟨B, 0, none⟩ = some (.int .i64 k1) ∧ W'.cell? ⟨B, 1, none⟩ = some (.int .i64 t1) ∧ W'.cell? ⟨B, 2, none⟩ = some (.int .i64 i1) ∧ W'.cell? ⟨B, 3, none⟩ = some (.bool y1) ∧ W'.cell? ⟨B, 4, none⟩ = some (.slice a9 (ps1.length + 1) c9) ∧ W'.cell? ⟨B, 5, none⟩ = some (.slice b5 us1.length d5))
        (first | assumption | exact HC.out _ KD.out | exact HC.out _ KCC.out | exact HC.out _ KBB.out | exact HC.out _ KA.out | exact HC.out _ KK0.out.drew | go_keep)
        (first
        | (go_at_call 31; refine (HKR.out _ (HRX.out.keep (Keep.refl NoF WN).drew)).mono ?_; rintro e wa ⟨rfl, hka⟩; have KA := Lib.hid (hka.of_drew : Keep NoF WN wa); clear hka)
        | (go_at_call 32; refine (HRR.out _ (HRX.out.keep KCC.out)).mono ?_; rintro e wd ⟨rfl, hkd⟩; have KD := Lib.hid (KCC.out.trans' hkd); clear hkd)
        | (go_at_call 32; refine (HRR.out _ (HRX.out.keep KA.out)).mono ?_; rintro e wb ⟨rfl, hkb⟩; have KBB := Lib.hid (KA.out.trans' hkb); clear hkb)
        | (go_at_call 35; refine (HEN.out _ (HRX.out.keep KBB.out)).mono ?_; rintro e wc ⟨ae, ce, rfl, _, hkc, _⟩; have KCC := Lib.hid (KBB.out.trans' hkc); have hn1 := Lib.run_eql_slice_nil (P := Try.prog) wc 24 5 (some ae) ne ce 0 0 Try.underlying24; clear hkc))
      all_goals
        go_wp2_with fail
        go_ret
        exact ⟨rfl, KW.out.trans' KD.out⟩
  · obtain ⟨c0, c1, c2, c3, c4', c5'⟩ := rec_cells HROW3.out
    have hO0 := HPO.out
    unfold OwnP at hO0
    have HO0 := Lib.hid hO0
    have HL1 : Hid (ps1.length ≤ 9 ∧ us1.length ≤ 12) := Lib.hid ⟨HLN.out.1, HLN.out.2.1⟩
    clear hO0
    go_wp2_with (at_builtin; refine wpList_app 36 36 29 (.agg #[.string ByteArray.empty, .string ByteArray.empty]) 2 32 Try.underlying36 infoPut rfl (by decide) (by decide) rfl rfl rfl rfl (HO0.out.alloc _) (Src.two Try.underlying36 (heap_new W0 _) 1) (by have := HL1.out; omega) ?_)
    intro a9 c9 w9 hown hgr hfr
    have hkO : Keep (fun g => blockOf b5 = some g) W0 w9 := ((Keep.refl (fun g => blockOf b5 = some g) W0).alloc _).grown hgr (fun g _ e => by rw [own_blk] at e; exact e)
    have hO9 : OwnP w9 (.slice a9 (us1.length + 1) c9) (us1 ++ [⟨⟨#[113]⟩, ByteArray.empty⟩]) := by rw [OwnP, List.length_append, pvs, List.flatMap_append]; exact hown
    obtain ⟨a7, c7, e7, s6, bk6⟩ := hO9.sl (fun n hn => by rcases List.mem_append.1 hn with h | h; exact HX.out.puts.2.2.1 n h; rw [List.mem_singleton.1 h]; decide)
    obtain ⟨rfl, -, rfl⟩ : a9 = a7 ∧ us1.length + 1 = (us1 ++ [(⟨⟨#[113]⟩, ByteArray.empty⟩ : PutV)]).length ∧ c9 = c7 := by injection e7 with x y z; exact ⟨x, y, z⟩
    have hrow9 := HROW3.out
    rw [← hkO.block B (lt_of_heap HROW3.out) (fun e => (HN6.out.2 B e).1 rfl)] at hrow9
    have hk9 : Keep NoF w w9 := K3.out.trans hkO (fun _ _ f => f) (fun g hg e => by have := (HN6.out.2 g e).2; omega)
    have hab : ∀ g, blockOf a9 = some g → g ≠ B := fun g hg e => by
      rw [bk6] at hg
      rcases hfr with f | f
      · rw [f, own_blk] at hg; exact (HN6.out.2 g hg).1 e
      · rw [f] at hg; injection hg with hg; have := lt_of_heap HROW3.out; (try simp at hg); omega
    have hpa : SlI w9 b4 d4 ps1 := HX.out.parts.keep hkO (fun g hg e => HDIS.out g hg e)
    have hRW : (w9.setCell ⟨B, 5, none⟩ (.slice a9 (us1.length + 1) c9)).heap[B]? = some (.cells (recCells k1 t1 i1 y1 (.slice b4 ps1.length d4) (.slice a9 (us1.length + 1) c9)) 38 (0, 0)) := set1 hrow9 (.slice a9 (us1.length + 1) c9)
    have hKB : Keep (fun x => x = B) w9 (w9.setCell ⟨B, 5, none⟩ (.slice a9 (us1.length + 1) c9)) := (Keep.refl (fun x => x = B) w9).setCell (p := ⟨B, 5, none⟩) (fun _ => rfl) (.slice a9 (us1.length + 1) c9)
    have hKW : Keep NoF w (w9.setCell ⟨B, 5, none⟩ (.slice a9 (us1.length + 1) c9)) := hk9.trans hKB (fun _ _ f => f) (fun x hx e => by have := HBB.out; omega)
    have hRX : RecAt (w9.setCell ⟨B, 5, none⟩ (.slice a9 (us1.length + 1) c9)) ⟨k1, t1, i1, y1, ps1, us1 ++ [⟨⟨#[113]⟩, ByteArray.empty⟩]⟩ b4 d4 a9 c9 := ⟨HX.out.kind, HX.out.tid, HX.out.id, hpa.keep hKB (fun g hg e => (HN6.out.1 g hg).1 e), s6.keep hKB (fun g hg e => hab g hg e)⟩
    have hfz := free_of_heap hrow9 5
    have c49 := cell_of_heap hrow9 5
    simp [recCells] at c49
    clear hown hgr hfr hO9 s6 bk6 e7 hkO hk9 hab hpa hKB hrow9
    go_wp2_with fail
    show Code.wp _ _ _ _ (w9.setCell ⟨B, 5, none⟩ (.slice a9 (us1.length + 1) c9))
    clear c0 c1 c2 c3 c4' c5' hfz c49
    generalize w9.setCell ⟨B, 5, none⟩ (.slice a9 (us1.length + 1) c9) = WN at hRW hKW hRX ⊢
    have HRW := Lib.hid hRW; have KW := Lib.hid hKW; have HRX := Lib.hid hRX
    clear hRW hKW hRX
    obtain ⟨uz, huz⟩ : ∃ l, us1 ++ [(⟨⟨#[113]⟩, ByteArray.empty⟩ : PutV)] = l := ⟨_, rfl⟩
    rw [huz] at HRX
    have HUL : Hid (uz.length = us1.length + 1) := Lib.hid (by rw [← huz]; simp)
    clear huz
    have hc : ∀ W, Keep NoF WN W → RecC W B k1 t1 i1 y1 (.slice b4 ps1.length d4) (.slice a9 (us1.length + 1) c9) := fun W hW => rec_cells (row_keep HRW.out hW)
    unfold RecC at hc
    have HC := Lib.hid hc
    obtain ⟨c0, c1, c2, c3, c4', c5'⟩ := HC.out WN (Keep.refl _ _)
    have KK0 : Hid (Keep NoF WN WN) := Keep.refl _ _
    clear hc
    rcases hb : recB ⟨k1, t1, i1, y1, ps1, uz⟩ with _ | _
    · have HEN := Lib.hid (fun W h => encode_f (k1) (t1) (i1) (y1) (ps1) (uz) (b4) (d4) (a9) (c9) hb W h)
      have hnil := fun W => Lib.run_eql_slice_nil (P := Try.prog) W 24 5 none 0 0 0 0 Try.underlying24
      have HNIL := Lib.hid hnil
      clear hnil
      have hkr := fun W h => krecord_op (k1) (t1) (i1) (y1) (ps1) (uz) (b4) (d4) (a9) (c9) false hb W h
      have hrr := fun W h => rrecord_op (k1) (t1) (i1) (y1) (ps1) (uz) (b4) (d4) (a9) (c9) false hb W h
      have hen := HEN.out
      clear HEN
      simp only [HUL.out] at hkr hrr hen
      have HEN := Lib.hid hen
      clear hen
      have HKR := Lib.hid hkr; have HRR := Lib.hid hrr
      clear hb hkr hrr
      go_wp2_with fail
      go_region_held3 (fun W' : World => W'.cell? ⟨B, 0, none⟩ = some (.int .i64 k1) ∧ W'.cell? ⟨B, 1, none⟩ = some (.int .i64 t1) ∧ W'.cell? ⟨B, 2, none⟩ = some (.int .i64 i1) ∧ W'.cell? ⟨B, 3, none⟩ = some (.bool y1) ∧ W'.cell? ⟨B, 4, none⟩ = some (.slice b4 ps1.length d4) ∧ W'.cell? ⟨B, 5, none⟩ = some (.slice a9 (us1.length + 1) c9))
        (first | assumption | exact HC.out _ KD.out | exact HC.out _ KCC.out | exact HC.out _ KBB.out | exact HC.out _ KA.out | exact HC.out _ KK0.out.drew | go_keep)
        (first
        | (go_at_call 31; refine (HKR.out _ (HRX.out.keep (Keep.refl NoF WN).drew)).mono ?_; rintro e wa ⟨rfl, hka⟩; have KA := Lib.hid (hka.of_drew : Keep NoF WN wa); clear hka)
        | (go_at_call 32; refine (HRR.out _ (HRX.out.keep KCC.out)).mono ?_; rintro e wd ⟨rfl, hkd⟩; have KD := Lib.hid (KCC.out.trans' hkd); clear hkd)
        | (go_at_call 32; refine (HRR.out _ (HRX.out.keep KA.out)).mono ?_; rintro e wb ⟨rfl, hkb⟩; have KBB := Lib.hid (KA.out.trans' hkb); clear hkb)
        | (go_at_call 35; refine (HEN.out _ (HRX.out.keep KBB.out)).mono ?_; rintro e wc ⟨rfl, hkc⟩; have KCC := Lib.hid (KBB.out.trans' hkc); have hn1 := HNIL.out wc; clear hkc))
      all_goals
        go_wp2_with fail
        go_ret
        exact ⟨rfl, KW.out.trans' KD.out⟩
    · obtain ⟨ne, hne⟩ : ∃ n, (encB ⟨k1, t1, i1, y1, ps1, uz⟩).length = n := ⟨_, rfl⟩
      have HEN := Lib.hid (fun W h => encode_t (k1) (t1) (i1) (y1) (ps1) (uz) (b4) (d4) (a9) (c9) hb ne hne W h)
      clear hne
      have hkr := fun W h => krecord_op (k1) (t1) (i1) (y1) (ps1) (uz) (b4) (d4) (a9) (c9) true hb W h
      have hrr := fun W h => rrecord_op (k1) (t1) (i1) (y1) (ps1) (uz) (b4) (d4) (a9) (c9) true hb W h
      have hen := HEN.out
      clear HEN
      simp only [HUL.out] at hkr hrr hen
      have HEN := Lib.hid hen
      clear hen
      have HKR := Lib.hid hkr; have HRR := Lib.hid hrr
      clear hb hkr hrr
      go_wp2_with fail
      go_region_held3 (fun W' : World => W'.cell? ⟨B, 0, none⟩ = some (.int .i64 k1) ∧ W'.cell? ⟨B, 1, none⟩ = some (.int .i64 t1) ∧ W'.cell? ⟨B, 2, none⟩ = some (.int .i64 i1) ∧ W'.cell? ⟨B, 3, none⟩ = some (.bool y1) ∧ W'.cell? ⟨B, 4, none⟩ = some (.slice b4 ps1.length d4) ∧ W'.cell? ⟨B, 5, none⟩ = some (.slice a9 (us1.length + 1) c9))
        (first | assumption | exact HC.out _ KD.out | exact HC.out _ KCC.out | exact HC.out _ KBB.out | exact HC.out _ KA.out | exact HC.out _ KK0.out.drew | go_keep)
        (first
        | (go_at_call 31; refine (HKR.out _ (HRX.out.keep (Keep.refl NoF WN).drew)).mono ?_; rintro e wa ⟨rfl, hka⟩; have KA := Lib.hid (hka.of_drew : Keep NoF WN wa); clear hka)
        | (go_at_call 32; refine (HRR.out _ (HRX.out.keep KCC.out)).mono ?_; rintro e wd ⟨rfl, hkd⟩; have KD := Lib.hid (KCC.out.trans' hkd); clear hkd)
        | (go_at_call 32; refine (HRR.out _ (HRX.out.keep KA.out)).mono ?_; rintro e wb ⟨rfl, hkb⟩; have KBB := Lib.hid (KA.out.trans' hkb); clear hkb)
        | (go_at_call 35; refine (HEN.out _ (HRX.out.keep KBB.out)).mono ?_; rintro e wc ⟨ae, ce, rfl, _, hkc, _⟩; have KCC := Lib.hid (KBB.out.trans' hkc); have hn1 := Lib.run_eql_slice_nil (P := Try.prog) wc 24 5 (some ae) ne ce 0 0 Try.underlying24; clear hkc))
      all_goals
        go_wp2_with fail
        go_ret
        exact ⟨rfl, KW.out.trans' KD.out⟩
  · have hRW : (W0.setCell ⟨B, 4, none⟩ (.slice none 0 0)).heap[B]? = some (.cells (recCells k1 t1 i1 y1 (.slice none 0 0) (.slice b5 us1.length d5)) 38 (0, 0)) := set1 HROW3.out (.slice none 0 0)
    have hKB : Keep (fun x => x = B) W0 (W0.setCell ⟨B, 4, none⟩ (.slice none 0 0)) := (Keep.refl (fun x => x = B) W0).setCell (p := ⟨B, 4, none⟩) (fun _ => rfl) (.slice none 0 0)
    have hKW : Keep NoF w (W0.setCell ⟨B, 4, none⟩ (.slice none 0 0)) := K3.out.trans hKB (fun _ _ f => f) (fun x hx e => by have := HBB.out; omega)
    have hRX : RecAt (W0.setCell ⟨B, 4, none⟩ (.slice none 0 0)) ⟨k1, t1, i1, y1, [], us1⟩ none 0 b5 d5 := ⟨HX.out.kind, HX.out.tid, HX.out.id, SlI.nil _, HX.out.puts.keep hKB (fun g hg e => (HN6.out.2 g hg).1 e)⟩
    have hfz := free_of_heap HROW3.out 4
    obtain ⟨c0, c1, c2, c3, c4', c5'⟩ := rec_cells HROW3.out
    go_wp2_with fail
    show Code.wp _ _ _ _ (W0.setCell ⟨B, 4, none⟩ (.slice none 0 0))
    clear c0 c1 c2 c3 c4' c5' hfz hKB
    generalize W0.setCell ⟨B, 4, none⟩ (.slice none 0 0) = WN at hRW hKW hRX ⊢
    have HRW := Lib.hid hRW; have KW := Lib.hid hKW; have HRX := Lib.hid hRX
    clear hRW hKW hRX
    have hc : ∀ W, Keep NoF WN W → RecC W B k1 t1 i1 y1 (.slice none 0 0) (.slice b5 us1.length d5) := fun W hW => rec_cells (row_keep HRW.out hW)
    unfold RecC at hc
    have HC := Lib.hid hc
    obtain ⟨c0, c1, c2, c3, c4', c5'⟩ := HC.out WN (Keep.refl _ _)
    have KK0 : Hid (Keep NoF WN WN) := Keep.refl _ _
    clear hc
    rcases hb : recB ⟨k1, t1, i1, y1, [], us1⟩ with _ | _
    · have HEN := Lib.hid (fun W h => encode_f (k1) (t1) (i1) (y1) ([]) (us1) (none) (0) (b5) (d5) hb W h)
      have hnil := fun W => Lib.run_eql_slice_nil (P := Try.prog) W 24 5 none 0 0 0 0 Try.underlying24
      have HNIL := Lib.hid hnil
      clear hnil
      have hkr := fun W h => krecord_op (k1) (t1) (i1) (y1) ([]) (us1) (none) (0) (b5) (d5) false hb W h
      have hrr := fun W h => rrecord_op (k1) (t1) (i1) (y1) ([]) (us1) (none) (0) (b5) (d5) false hb W h
      have hen := HEN.out
      clear HEN
      simp only [List.length_nil] at hkr hrr hen
      have HEN := Lib.hid hen
      clear hen
      have HKR := Lib.hid hkr; have HRR := Lib.hid hrr
      clear hb hkr hrr
      go_wp2_with fail
      go_region_held3 (fun W' : World => W'.cell? ⟨B, 0, none⟩ = some (.int .i64 k1) ∧ W'.cell? ⟨B, 1, none⟩ = some (.int .i64 t1) ∧ W'.cell? ⟨B, 2, none⟩ = some (.int .i64 i1) ∧ W'.cell? ⟨B, 3, none⟩ = some (.bool y1) ∧ W'.cell? ⟨B, 4, none⟩ = some (.slice none 0 0) ∧ W'.cell? ⟨B, 5, none⟩ = some (.slice b5 us1.length d5))
        (first | assumption | exact HC.out _ KD.out | exact HC.out _ KCC.out | exact HC.out _ KBB.out | exact HC.out _ KA.out | exact HC.out _ KK0.out.drew | go_keep)
        (first
        | (go_at_call 31; refine (HKR.out _ (HRX.out.keep (Keep.refl NoF WN).drew)).mono ?_; rintro e wa ⟨rfl, hka⟩; have KA := Lib.hid (hka.of_drew : Keep NoF WN wa); clear hka)
        | (go_at_call 32; refine (HRR.out _ (HRX.out.keep KCC.out)).mono ?_; rintro e wd ⟨rfl, hkd⟩; have KD := Lib.hid (KCC.out.trans' hkd); clear hkd)
        | (go_at_call 32; refine (HRR.out _ (HRX.out.keep KA.out)).mono ?_; rintro e wb ⟨rfl, hkb⟩; have KBB := Lib.hid (KA.out.trans' hkb); clear hkb)
        | (go_at_call 35; refine (HEN.out _ (HRX.out.keep KBB.out)).mono ?_; rintro e wc ⟨rfl, hkc⟩; have KCC := Lib.hid (KBB.out.trans' hkc); have hn1 := HNIL.out wc; clear hkc))
      all_goals
        go_wp2_with fail
        go_ret
        exact ⟨rfl, KW.out.trans' KD.out⟩
    · obtain ⟨ne, hne⟩ : ∃ n, (encB ⟨k1, t1, i1, y1, [], us1⟩).length = n := ⟨_, rfl⟩
      have HEN := Lib.hid (fun W h => encode_t (k1) (t1) (i1) (y1) ([]) (us1) (none) (0) (b5) (d5) hb ne hne W h)
      clear hne
      have hkr := fun W h => krecord_op (k1) (t1) (i1) (y1) ([]) (us1) (none) (0) (b5) (d5) true hb W h
      have hrr := fun W h => rrecord_op (k1) (t1) (i1) (y1) ([]) (us1) (none) (0) (b5) (d5) true hb W h
      have hen := HEN.out
      clear HEN
      simp only [List.length_nil] at hkr hrr hen
      have HEN := Lib.hid hen
      clear hen
      have HKR := Lib.hid hkr; have HRR := Lib.hid hrr
      clear hb hkr hrr
      go_wp2_with fail
      go_region_held3 (fun W' : World => W'.cell? ⟨B, 0, none⟩ = some (.int .i64 k1) ∧ W'.cell? ⟨B, 1, none⟩ = some (.int .i64 t1) ∧ W'.cell? ⟨B, 2, none⟩ = some (.int .i64 i1) ∧ W'.cell? ⟨B, 3, none⟩ = some (.bool y1) ∧ W'.cell? ⟨B, 4, none⟩ = some (.slice none 0 0) ∧ W'.cell? ⟨B, 5, none⟩ = some (.slice b5 us1.length d5))
        (first | assumption | exact HC.out _ KD.out | exact HC.out _ KCC.out | exact HC.out _ KBB.out | exact HC.out _ KA.out | exact HC.out _ KK0.out.drew | go_keep)
        (first
        | (go_at_call 31; refine (HKR.out _ (HRX.out.keep (Keep.refl NoF WN).drew)).mono ?_; rintro e wa ⟨rfl, hka⟩; have KA := Lib.hid (hka.of_drew : Keep NoF WN wa); clear hka)
        | (go_at_call 32; refine (HRR.out _ (HRX.out.keep KCC.out)).mono ?_; rintro e wd ⟨rfl, hkd⟩; have KD := Lib.hid (KCC.out.trans' hkd); clear hkd)
        | (go_at_call 32; refine (HRR.out _ (HRX.out.keep KA.out)).mono ?_; rintro e wb ⟨rfl, hkb⟩; have KBB := Lib.hid (KA.out.trans' hkb); clear hkb)
        | (go_at_call 35; refine (HEN.out _ (HRX.out.keep KBB.out)).mono ?_; rintro e wc ⟨ae, ce, rfl, _, hkc, _⟩; have KCC := Lib.hid (KBB.out.trans' hkc); have hn1 := Lib.run_eql_slice_nil (P := Try.prog) wc 24 5 (some ae) ne ce 0 0 Try.underlying24; clear hkc))
      all_goals
        go_wp2_with fail
        go_ret
        exact ⟨rfl, KW.out.trans' KD.out⟩

set_option linter.unusedVariables false
set_option maxRecDepth 100000 in
theorem lifted (os : Os) (started : os.Started) (H : Type) (enc : TypeId × Value → H) :
    ReturnsInHanded {} Try.checked os 6 .any (Rows.kindTurnSpec.pre6 enc Try.prog Try.f6 Rows.kindTurnRow.domain false) (Rows.kindTurnSpec.post enc Try.prog Try.f6 false true false false) := by
  refine returnsInHanded_of_change (C := Try.checked) own started (by kernel_rfl) Try.func6
    (ChangeSpec.witness6 (enc := enc) (C := Try.checked) false ⟨#[], #[.agg #[.int .i64 0, .int .i64 0, .int .i64 0, .bool false, .slice none 0 0, .slice none 0 0], .int .i64 0, .int .i64 0], []⟩ 8 (by kernel_rfl) (by kernel_rfl) (by kernel_rfl) (by kernel_rfl)) ?_
  intro W base args ds gs before hval0 hW hcnd _
  have hval : ∀ (j : Nat) t v, Try.f6.params[j]? = some t → args[j]? = some v → Value.okWide Try.prog W .any base t v := hval0
  have hW' := hW
  obtain ⟨p, q, hA0, hV, rfl, hfz, hnd⟩ := hW
  have hA : DataW.TrodAll enc Try.prog W 0 (fun _ => true) true Try.f6.params.toList args.toList ds p := hA0
  rw [Try.params6] at hA hval
  obtain ⟨v0, vs0, d0, ds0, p0, q0, hargs, rfl, rfl, h0, r0⟩ := trodAll_cons hA
  obtain ⟨v1, vs1, d1, ds1, p1, q1, rfl, rfl, rfl, h1, r1⟩ := trodAll_cons r0
  obtain ⟨v2, vs2, d2, ds2, p2, q2, rfl, rfl, rfl, h2, r2⟩ := trodAll_cons r1
  obtain ⟨rfl, rfl, rfl⟩ := trodAll_nil r2
  obtain rfl : args = #[v0, v1, v2] := by cases args; simp_all
  obtain ⟨rfl, rfl⟩ := trodVars_none hV
  have k0 := h0
  have lt0 : ∀ x ∈ p0, x.block < W.heap.size := by obtain ⟨m, hm⟩ := k0; exact DataW.trod_lt m _ _ _ hm
  obtain ⟨z0, rfl, w0⟩ := open_arg0 W base (hval 0 38 v0 rfl rfl) h0
  obtain ⟨a1, rfl, rfl, rfl, w1⟩ := open_int Try.underlying3 (hval 1 3 v1 rfl rfl) h1
  obtain ⟨a2, rfl, rfl, rfl, w2⟩ := open_int Try.underlying2 (hval 2 2 v2 rfl rfl) h2
  clear hA0 hval0
  refine (walk W z0 w0 a1 w1 a2 w2).mono fun e W' ⟨he, hk⟩ => ?_
  subst he
  have bel := Keep.below hk
  exact ⟨_, rfl, _, _, _, [], _, [], hW', trodAll_mk1 (shut_bool Try.underlying4 _), (trodAll_cons_mk (Below.trod laidOut (by kernel_rfl) (of_decide_eq_true (by kernel_rfl)) k0 bel lt0) (trodAll_cons_mk (shut_int Try.underlying3 w1) (trodAll_cons_mk (shut_int Try.underlying2 w2) trodAll_mk0))), rfl, bel.frame _, fun h => by cases h⟩

theorem over : Rows.kindTurnRow.holds Try.pinned (OpenSpec.ofChange Rows.kindTurnSpec) :=
  OpenClaim.holds_of_wide 6 Try.f6 rfl rfl rfl rfl rfl rfl rfl ⟨rfl, rfl, rfl, rfl, rfl⟩ rfl rfl rfl rfl rfl (by kernel_rfl) Try.func6 (by kernel_rfl)
    (of_decide_eq_true (by kernel_rfl)) (by unfold Func.isWrapper; rw [if_neg (of_decide_eq_false (by kernel_rfl))]; exact ⟨rfl, rfl⟩)
    (fun os started H enc _ => lifted os started H enc)

/-- The statement. -/
theorem proved : Rows.KindTurnSaid := over
#print axioms proved
end Go.Proofs.Ytgbogbjifpijkaa.kindTurn
