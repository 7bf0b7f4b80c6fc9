/- RecAny: the law returns true and changes nothing that was there. No conditions. -/
import Derived.Test.YtgbogbjifpijkaaTells8
import Derived.Test.YtgbogbjifpijkaaRows
import Derived.WalkKit
import Derived.ProofKit
import Derived.OpenShut
import Derived.ShutString
import Derived.ChangeOld
import Derived.Below
namespace Go.Proofs.Ytgbogbjifpijkaa.recAny
open Go Go.ChangeShapes Go.WideShapes Go.ChangeAt Go.RowKit
open Go.ChangeMaps (open_string shut_string)

theorem own : ownKnob Try.prog.godebug = none := by kernel_rfl
theorem laidOut : laidOutB Try.prog = true := by kernel_rfl

theorem open_arg1 {H : Type} {enc : TypeId × Value → H} {r : Reach} {b0 : Nat} {v : Value} {d : DataW H} {p : List MemPlace} (W : World) (_base : Nat)
    (hv : Value.okWide Try.prog W r b0 38 v) (h : DataW.Trod enc Try.prog W 0 (fun _ => true) true 38 v d p) : ∃ z : RecA, v = z.val ∧ z.Ok W := open_record hv h

theorem xor_u8 (a b : UInt8) : bits .xor .u8 (a.toNat : Int) (b.toNat : Int) = ((a ^^^ b).toNat : Int) := by
  have ha := a.toNat_lt
  have hb := b.toNat_lt
  rw [bits_xor_nat, UInt8.toNat_xor]
  have e1 : ((a.toNat : Int) % ((2 ^ IntKind.u8.bits : Nat) : Int)).toNat = a.toNat := by
    have : IntKind.u8.bits = 8 := rfl
    rw [this]; omega
  have e2 : ((b.toNat : Int) % ((2 ^ IntKind.u8.bits : Nat) : Int)).toNat = b.toNat := by
    have : IntKind.u8.bits = 8 := rfl
    rw [this]; omega
  rw [e1, e2]
  have h := Nat.xor_lt_two_pow (x := a.toNat) (y := b.toNat) (n := 8) (by omega) (by omega)
  have h2 : IntKind.u8.wrap ((a.toNat ^^^ b.toNat : Nat) : Int) = ((a.toNat ^^^ b.toNat : Nat) : Int) % 256 := rfl
  rw [h2]
  omega
theorem AccI.first {w1 wc w9 : World} {v9 : Value} {l2 : List UInt8} {n : Nat} {news : List Value} (hk : Keep NoF w1 wc) (hown : w9.ownsRow 0 5 1 v9 n news) (hn : n = l2.length) (hx : news = bvs l2)
    (hgr : wc.grownBy w9 (Value.slice none 0 0).ownBlock) (hfr : v9.ownBlock = (Value.slice none 0 0).ownBlock ∨ v9.ownBlock = some wc.heap.size) : AccI w1 w9 v9 l2 := by
  subst hn hx
  refine ⟨hown, hk.grown hgr (fun k _ e => by cases e), fun j hj => ?_⟩
  rcases hfr with f | f
  · rw [f] at hj; cases hj
  · rw [f] at hj; injection hj with hj; have := hk.size; omega
theorem slb_drop {w : World} {g cp : Nat} {l : List UInt8} (h : SlB w (some ⟨g, 0, none⟩) cp l) (k : Nat) (hk : k ≤ l.length) : SlB w (some ⟨g, k, none⟩) (cp - k) (l.drop k) := by
  refine ⟨by rw [List.length_drop]; have := h.1; omega, by have := h.2.1; omega, fun i hi => ?_⟩
  rw [List.length_drop] at hi
  obtain ⟨g', off, e, hc⟩ := h.2.2 (k + i) (by omega)
  injection e with e
  injection e with e1 e2
  subst e1 e2
  refine ⟨g, k, rfl, ?_⟩
  rw [List.getElem_drop, ← hc]
  simp

set_option maxHeartbeats 8000000 in
theorem walk (w : World) (a : Option Addr) (len cap : Nat) (zs : List Int) (hr : IsRow .u8 w a len cap zs) (z : RecA) (hz : z.Ok w) (at_ : Int) (ha : (Lit.int .i64 at_).wf = true) (x : Int) (hx : (Lit.int .u8 x).wf = true) (how : Int) (_ : (Lit.int .i64 how).wf = true) :
    Calls Try.prog 8 #[.slice a len cap, z.val, .int .i64 at_, .int .u8 x, .int .i64 how] w fun e w' => e = .returned (.bool true) ∧ Keep NoF w w' := by
  obtain ⟨⟨k, t, i, y, ps, us⟩, a4, c4, a5, c5⟩ := z
  have HZ : Hid (RecAt w ⟨k, t, i, y, ps, us⟩ a4 c4 a5 c5) := hz
  obtain ⟨l, hl, hsl⟩ := hr.slb
  obtain ⟨xb, hxb⟩ := u8_of (bounds_u8 hx)
  have HXB := Lib.hid hxb
  have bx := bounds_u8 hx
  clear hxb
  have ba := bounds_i64 ha
  obtain ⟨q, hq⟩ : ∃ q, bits .and .i64 how 3 = q := ⟨_, rfl⟩
  have hq4 : q = 0 ∨ q = 1 ∨ q = 2 ∨ q = 3 := by rw [← hq, and_3_i64]; omega
  have HSL := Lib.hid hsl
  subst hl
  unfold RecA.val recVal
  simp only
  clear hz hr hx ha hsl
  go_enter Try.func8, Try.ntmps8
  go_wp2_with fail
  refine (begun8_any _).mono ?_
  rintro e w0 ⟨rfl, hk⟩
  have h0 := heap_new w (.cells (recCells k t i y (.slice a4 ps.length c4) (.slice a5 us.length c5)) 38 (0, 0))
  have HROW : Hid (w0.heap[w.heap.size]? = some (.cells (recCells k t i y (.slice a4 ps.length c4) (.slice a5 us.length c5)) 38 (0, 0))) := row_keep h0 hk
  have K0 : Hid (Keep NoF w w0) := Lib.hid ((keep_alloc w _).trans' hk)
  obtain ⟨B, hB⟩ : ∃ B, w.heap.size = B := ⟨_, rfl⟩
  have HBB : Hid (w.heap.size ≤ B) := Lib.hid (by omega)
  rw [hB] at HROW ⊢
  clear h0 hk hB
  go_wp2_with fail
  refine (short_any a cap l 60 w0 (HSL.out.keep K0.out (fun _ _ f => f)) (by decide)).mono ?_
  rintro e w1 ⟨v1, rfl, ho1, hk1, hf1⟩
  obtain ⟨a1, cp1, rfl, sl1, bk1⟩ := ho1.slb
  obtain ⟨l1, hl1⟩ : ∃ l1, l.take 60 = l1 := ⟨_, rfl⟩
  rw [hl1] at ho1 sl1 hf1 bk1 ⊢
  obtain ⟨n1, hn1⟩ : ∃ n, l1.length = n := ⟨_, rfl⟩
  have hte : ∀ W, Keep NoF w1 W → Calls Try.prog 41 #[.slice a1 n1 cp1] W fun e w' => e = .returned (.bool true) ∧ Keep NoF W w' := fun W hW =>
    tells_any a1 cp1 l1 n1 hn1 W (sl1.keep hW (fun _ _ f => f)) (fun g hg => Nat.lt_of_lt_of_le (ho1.lt g (by rw [← bk1]; exact hg)) hW.size)
  have HTE := Lib.hid hte
  have K1 : Hid (Keep NoF w w1) := Lib.hid (K0.out.trans' hk1)
  have HRAT := Lib.hid (HZ.out.keep K1.out)
  have HROW1 := Lib.hid (row_keep HROW.out hk1)
  rw [hn1]
  clear ho1 sl1 hf1 bk1 hl1 hte hk1 hn1
  obtain ⟨c0, c1, c2, c3, c4', c5'⟩ := rec_cells HROW1.out
  go_wp2_with fail
  refine (record8_op k t i y ps us a4 c4 a5 c5 _ HRAT.out).mono ?_
  rintro e w2 ⟨k1, t1, i1, y1, ps1, us1, b4, d4, b5, d5, rfl, hX, hk2, hf4, hf5, hl9, hl12, hpu, ho4, ho5, hdis⟩
  have HX := Lib.hid hX; have K2 : Hid (Keep NoF w1 w2) := Lib.hid hk2
  clear hX hk2 hf4 hf5 hl9 hl12 hpu ho4 ho5 hdis c0 c1 c2 c3 c4' c5'
  rcases hb : recB ⟨k1, t1, i1, y1, ps1, us1⟩ with _ | _
  · have HEN := Lib.hid (fun W h => encode_f k1 t1 i1 y1 ps1 us1 b4 d4 b5 d5 hb W h)
    clear hb
    go_wp2_with fail
    refine (HEN.out _ HX.out).mono ?_
    rintro e w4 ⟨rfl, hk4⟩
    have K4 := Lib.hid hk4
    clear hk4
    go_wp2_with fail
    refine (HTE.out _ (K2.out.trans' K4.out)).mono ?_
    rintro e w5 ⟨rfl, hk5⟩
    have K5 := Lib.hid hk5
    clear hk5
    go_wp2_with fail
    refine (HTE.out _ ((K2.out.trans' K4.out).trans' K5.out)).mono ?_
    rintro e w6 ⟨rfl, hk6⟩
    have K6 := Lib.hid hk6
    clear hk6
    go_wp2_with fail
    go_ret
    exact ⟨rfl, K1.out.trans' (((K2.out.trans' K4.out).trans' K5.out).trans' K6.out)⟩
  · obtain ⟨p, hp⟩ : ∃ p, encB ⟨k1, t1, i1, y1, ps1, us1⟩ = p := ⟨_, rfl⟩
    obtain ⟨ne, hne⟩ : ∃ n, p.length = n := ⟨_, rfl⟩
    have hen := fun W h => encode_g k1 t1 i1 y1 ps1 us1 b4 d4 b5 d5 hb ne (by rw [hp]; exact hne) W h
    have hne0 : 0 < ne := by
      rw [← hne, ← hp]
      unfold encB
      simp only [List.length_append, smallB_length]
      omega
    rw [hp] at hen
    have HEN := Lib.hid hen
    have HNE := Lib.hid hne
    have HSM : Hid (ne ≤ 1000) := Lib.hid (by rw [← hne, ← hp]; exact enc_small _ hb)
    clear hb hne hp hen
    go_wp2_with fail
    refine (HEN.out _ HX.out).mono ?_
    rintro e w4 ⟨g, ce, rfl, ho4, sl4, hk4, hg4, hg5⟩
    have K4 := Lib.hid hk4; have HO4 := Lib.hid ho4; have HS4 := Lib.hid sl4; have HG := Lib.hid (And.intro hg4 hg5)
    have hcap := sl4.1
    have hcap2 := sl4.2.1
    rw [HNE.out] at hcap
    unfold maxLen at hcap2
    clear hk4 ho4 sl4 hg4 hg5
    have hnz : ((ne : Int) == 0) = false := by simp; omega
    go_wp2_with fail
    refine (HTE.out _ (K2.out.trans' K4.out)).mono ?_
    rintro e w5 ⟨rfl, hk5⟩
    have K5 := Lib.hid hk5
    clear hk5
    by_cases hneg : at_ < 0
    · go_wp2_with fail
      refine (HTE.out _ ((K2.out.trans' K4.out).trans' K5.out)).mono ?_
      rintro e w6 ⟨rfl, hk6⟩
      have K6 := Lib.hid hk6
      clear hk6
      go_wp2_with fail
      go_ret
      exact ⟨rfl, K1.out.trans' (((K2.out.trans' K4.out).trans' K5.out).trans' K6.out)⟩
    · have hat : 0 ≤ at_ := by omega
      clear hneg
      obtain ⟨kk, hkk⟩ : ∃ kk : Nat, at_.tmod ne = kk := by
        rw [Int.tmod_eq_emod_of_nonneg hat]
        exact ⟨(at_ % ne).toNat, by have := Int.emod_nonneg at_ (b := ne) (by omega); omega⟩
      have hkl : kk < ne := by
        have h1 := Int.tmod_eq_emod_of_nonneg (a := at_) (b := ne) hat
        have h2 := Int.emod_lt_of_pos at_ (b := ne) (by omega)
        omega
      have hkl2 : (kk : Int) < ne := by omega
      have KW : Hid (Keep NoF w w5) := Lib.hid (K1.out.trans' ((K2.out.trans' K4.out).trans' K5.out))
      have HO5 : Hid (OwnB w5 (.slice (some ⟨g, 0, none⟩) ne ce) p) := Lib.hid (by
        have h1 : OwnB w4 (.slice (some ⟨g, 0, none⟩) ne ce) p := by rw [OwnB, HNE.out]; exact HO4.out
        exact h1.keep K5.out (fun _ _ f => f))
      have HS5 := Lib.hid (HS4.out.keep K5.out (fun _ _ f => f))
      have HGW : Hid (w.heap.size ≤ g ∧ g < w5.heap.size) := Lib.hid ⟨by have := (K1.out.trans' K2.out).size; have := HG.out.1; omega, by have := K5.out.size; have := HG.out.2; omega⟩
      rcases hq4 with rfl | rfl | rfl | rfl
      · have hO5 := HO5.out
        rw [OwnB, HNE.out] at hO5
        obtain ⟨bv, hbv⟩ : ∃ b, p[kk]'(by have := HNE.out; omega) = b := ⟨_, rfl⟩
        have hcd : w5.cell? ⟨g, kk, none⟩ = some (.int .u8 bv.toNat) := by
          rw [hO5.cellAt kk (by omega), bvs, List.getElem?_map, List.getElem?_eq_getElem (by have := HNE.out; omega), hbv]; rfl
        have hfd := hO5.frozenAt kk
        have hst := hO5.stored kk (bval (bv ^^^ xb))
        have hxor := xor_u8 bv xb
        rw [← HXB.out] at hxor
        obtain ⟨bn, hbn⟩ : ∃ n : Int, (bv.toNat : Int) = n := ⟨_, rfl⟩
        have bbn : 0 ≤ bn ∧ bn ≤ 255 := by have := bv.toNat_lt; omega
        rw [hbn] at hcd hxor
        rw [bvs, ← List.map_set] at hst
        obtain ⟨p2, hp2⟩ : ∃ p2, p.set kk (bv ^^^ xb) = p2 := ⟨_, rfl⟩
        have hpl : p2.length = ne := by rw [← hp2, List.length_set]; exact HNE.out
        rw [hp2] at hst
        have hob : OwnB (w5.setCell ⟨g, kk, none⟩ (bval (bv ^^^ xb))) (.slice (some ⟨g, 0, none⟩) ne ce) p2 := by rw [OwnB, hpl]; exact hst.1
        have hkb : Keep NoF w (w5.setCell ⟨g, kk, none⟩ (bval (bv ^^^ xb))) := KW.out.setCell (p := ⟨g, kk, none⟩) (fun h => by have := HGW.out.1; simp only at h; omega) _
        obtain ⟨aa, ccc, ee, ss, _⟩ := hob.slb
        obtain ⟨rfl, rfl⟩ : aa = some ⟨g, 0, none⟩ ∧ ce = ccc := by injection ee with x1 x2 x3; exact ⟨x1.symm, x3⟩
        have HOB := Lib.hid ss; have HKB := Lib.hid hkb; have HPL := Lib.hid hpl
        clear hO5 hst hp2 hpl hob hkb ss hbv ee
        unfold bval at HOB HKB
        rw [← hxor] at HOB HKB
        clear hxor hbn
        go_wp2_with fail
        refine (tells_any (some ⟨g, 0, none⟩) ce p2 ne HPL.out _ HOB.out (fun q hq => by have := HGW.out.2; simp [blockOf] at hq; simp; omega)).mono ?_
        rintro e wf ⟨rfl, hkf⟩
        have KF := Lib.hid hkf
        clear hkf
        go_wp2_with fail
        go_ret
        exact ⟨rfl, HKB.out.trans' KF.out⟩
      · have hck : ¬ (ce = kk) := by omega
        have htl : (p.take kk).length = kk := by rw [List.length_take]; have := HNE.out; omega
        have hdl : (p.drop kk).length = ne - kk := by rw [List.length_drop]; have := HNE.out; omega
        have HSrc1 : Hid (∀ W, Keep NoF w5 W → Src Try.prog 1 24 (.slice (some ⟨g, 0, none⟩) kk ce) kk (bvs (p.take kk)) W) := fun W hW => by
          have h1 := src_slb (P := Try.prog) ((HS5.out.take kk).keep hW (fun _ _ f => f)) (t := 24) Try.underlying24
          rw [htl] at h1; exact h1
        have HSrc3 : Hid (∀ W, Keep NoF w5 W → Src Try.prog 1 24 (.slice (some ⟨g, kk, none⟩) (ne - kk) (ce - kk)) (ne - kk) (bvs (p.drop kk)) W) := fun W hW => by
          have h1 := src_slb (P := Try.prog) ((slb_drop HS5.out kk (by have := HNE.out; omega)).keep hW (fun _ _ f => f)) (t := 24) Try.underlying24
          rw [hdl] at h1; exact h1
        have hkc : (kk : Int) ≤ ce := by omega
        have hsm := HSM.out
        have HT1 := Lib.hid htl; have HD1 := Lib.hid hdl
        have HA0 : Hid (AccI w5 w5 (.slice none 0 0) []) := Lib.hid ⟨OwnB.nil _, Keep.refl _ _, nofun⟩
        have KQ : Hid (Keep NoF w5 w5) := Keep.refl _ _
        clear htl hdl
        go_upto_region 14 with fail
        have hkl3 : (kk : Int) ≤ ne := by omega
        have HX1 : Hid ([Value.int .u8 x] = bvs [xb]) := Lib.hid (by rw [HXB.out]; rfl)
        have HSRC2 : Hid (∀ W : World, Src Try.prog 1 24 (.slice (some ⟨W.heap.size, 0, none⟩) 1 1) 1 [.int .u8 x] (W.alloc (.cells #[.int .u8 x] 5 (0, 0)))) := fun W => Src.one Try.underlying24 (heap_new W _) rfl 1
        go_region_held3 (fun _ : World => True) (trivial) (first
          | (refine step_app 24 24 5 (.int .u8 0) 1 1 Try.underlying24 infoU8 rfl (by decide) (by decide) rfl rfl rfl rfl (World.ownsRow_nil _ _ _ _) (HSrc1.out _ (by first | exact (Keep.refl NoF _).drew | exact ((Keep.refl NoF _).alloc _).drew)) (by omega) ?_; intro a6 c6 w6 hown6 hgr6 hfr6; simp only [Nat.zero_add, List.nil_append] at hown6 hfr6; first | (have A1 := Lib.hid (AccI.first (w1 := w5) (l2 := p.take kk) (by with_reducible exact (Keep.refl NoF w5).drew) hown6 HT1.out.symm rfl hgr6 hfr6); have A1w := Lib.hid (A1.out.still (keep_alloc w6 (.cells #[.int .u8 x] 5 (0, 0)))); have SRC2 := Lib.hid (HSRC2.out w6)) | (have A1v := AccI.first (w1 := w5) (l2 := p.take kk) (by with_reducible exact ((Keep.refl NoF w5).alloc (.cells #[.int .u8 x] 5 (0, 0))).drew) hown6 HT1.out.symm rfl hgr6 hfr6; have A1w : Hid (AccI w5 w6 (.slice a6 (0 + kk) c6) (p.take kk)) := Lib.hid (by rw [Nat.zero_add]; exact A1v); clear A1v; have SRC2 : Hid (Src Try.prog 1 24 (.slice (some ⟨w5.heap.size, 0, none⟩) 1 1) 1 [.int .u8 x] w6) := Lib.hid (Src.one Try.underlying24 (((Keep.refl NoF (World.drew (World.alloc w5 (.cells #[.int .u8 x] 5 (0, 0))))).grown hgr6 (fun _ _ e => by cases e)).block w5.heap.size (by simp) (fun f => f) |>.trans (heap_new w5 _)) rfl 1)); clear hown6 hgr6 hfr6)
          | (refine step_app 24 24 5 (.int .u8 0) 1 1 Try.underlying24 infoU8 rfl (by decide) (by decide) rfl rfl rfl rfl (A2.out.row (n := kk + 1) (by rw [List.length_append, HT1.out]; rfl)) (HSrc3.out _ A2.out.keep) (by have := HSM.out; omega) ?_; intro a8 c8 w8 hown8 hgr8 hfr8; have A3 := Lib.hid (A2.out.app hown8 (by rw [List.length_append, HT1.out]; rfl) HD1.out.symm rfl hgr8 hfr8); clear hown8 hgr8 hfr8 A2)
          | (refine step_app 24 24 5 (.int .u8 0) 1 1 Try.underlying24 infoU8 rfl (by decide) (by decide) rfl rfl rfl rfl (A1w.out.row HT1.out) SRC2.out (by have := HSM.out; omega) ?_; intro a7 c7 w7 hown7 hgr7 hfr7; have A2 := Lib.hid (A1w.out.app (l2 := [xb]) hown7 HT1.out.symm rfl HX1.out hgr7 hfr7); clear hown7 hgr7 hfr7 A1w SRC2))
        all_goals
          obtain ⟨aa, ccc, ee, ss, bk⟩ := A3.out.own.slb
          have hpl : ((p.take kk ++ [xb]) ++ p.drop kk).length = kk + 1 + (ne - kk) := by rw [List.length_append, List.length_append, HT1.out, HD1.out]; rfl
          obtain ⟨rfl, rfl⟩ : a8 = aa ∧ c8 = ccc := by injection ee with x1 x2 x3; exact ⟨x1, x3⟩
          have hlt9 : ∀ q, blockOf a8 = some q → q < w8.heap.size := fun q hq => A3.out.own.lt q (by rw [← bk]; exact hq)
          have HOB := Lib.hid ss; have HKB := Lib.hid (KW.out.trans' A3.out.keep); have HPL := Lib.hid hpl; have HLT := Lib.hid hlt9
          clear ss bk hlt9 hpl ee A3
          go_wp2_with fail
          refine (tells_any a8 c8 ((p.take kk ++ [xb]) ++ p.drop kk) (kk + 1 + (ne - kk)) HPL.out _ HOB.out HLT.out).mono ?_
          rintro e wf ⟨rfl, hkf⟩
          have KF := Lib.hid hkf
          clear hkf
          go_wp2_with fail
          go_ret
          exact ⟨rfl, HKB.out.trans' KF.out⟩
      · have htl : (p.take kk).length = kk := by rw [List.length_take]; have := HNE.out; omega
        have HTL := Lib.hid htl
        have HST := Lib.hid (HS5.out.take kk)
        have hkc : (kk : Int) ≤ ce := by omega
        clear htl
        go_wp2_with fail
        refine (tells_any (some ⟨g, 0, none⟩) ce (p.take kk) kk HTL.out _ HST.out (fun q hq => by have := HGW.out.2; simp [blockOf] at hq; omega)).mono ?_
        rintro e wf ⟨rfl, hkf⟩
        have KF := Lib.hid hkf
        clear hkf
        go_wp2_with fail
        go_ret
        exact ⟨rfl, KW.out.trans' KF.out⟩
      · have hO5 := HO5.out
        rw [OwnB, HNE.out] at hO5
        have HO6 := Lib.hid hO5
        clear hO5
        have hsmall := HSM.out
        go_wp2_with (at_builtin; refine wpList_app 24 24 5 (.int .u8 0) 1 1 Try.underlying24 infoU8 rfl (by decide) (by decide) rfl rfl rfl rfl (HO6.out.alloc _) (Src.one Try.underlying24 (heap_new w5 _) rfl 1) (by omega) ?_)
        intro a9 c9 w9 hown hgr hfr
        have hO9 : OwnB w9 (.slice a9 (ne + 1) c9) (p ++ [xb]) := by rw [HXB.out] at hown; rw [OwnB, List.length_append, HNE.out, bvs_append]; exact hown
        have hk9 : Keep NoF w w9 := (KW.out.alloc _).grown hgr (fun q hq e => by injection e with e; have := HGW.out.1; simp only at e; omega)
        obtain ⟨aa, ccc, ee, ss, bk⟩ := hO9.slb
        obtain ⟨rfl, rfl⟩ : a9 = aa ∧ c9 = ccc := by injection ee with x1 x2 x3; exact ⟨x1, x3⟩
        have hlt9 : ∀ q, blockOf a9 = some q → q < w9.heap.size := fun q hq => hO9.lt q (by rw [← bk]; exact hq)
        have hpl : (p ++ [xb]).length = ne + 1 := by rw [List.length_append, HNE.out]; rfl
        have HOB := Lib.hid ss; have HKB := Lib.hid hk9; have HPL := Lib.hid hpl; have HLT := Lib.hid hlt9
        clear hown hgr hfr hO9 hk9 ss bk hlt9 hpl ee
        go_wp2_with fail
        refine (tells_any a9 c9 (p ++ [xb]) (ne + 1) HPL.out _ HOB.out HLT.out).mono ?_
        rintro e wf ⟨rfl, hkf⟩
        have KF := Lib.hid hkf
        clear hkf
        go_wp2_with fail
        go_ret
        exact ⟨rfl, HKB.out.trans' KF.out⟩

set_option linter.unusedVariables false
set_option maxRecDepth 100000 in
theorem lifted (os : Os) (started : os.Started) (H : Type) (enc : TypeId × Value → H) :
    ReturnsInHanded {} Try.checked os 8 .any (Rows.recAnySpec.pre6 enc Try.prog Try.f8 Rows.recAnyRow.domain false) (Rows.recAnySpec.post enc Try.prog Try.f8 false true false false) := by
  refine returnsInHanded_of_change (C := Try.checked) own started (by kernel_rfl) Try.func8
    (ChangeSpec.witness6 (enc := enc) (C := Try.checked) false ⟨#[], #[.slice none 0 0, .agg #[.int .i64 0, .int .i64 0, .int .i64 0, .bool false, .slice none 0 0, .slice none 0 0], .int .i64 0, .int .u8 0, .int .i64 0], []⟩ 8 (by kernel_rfl) (by kernel_rfl) (by kernel_rfl) (by kernel_rfl)) ?_
  intro W base args ds gs before hval0 hW hcnd _
  have hval : ∀ (j : Nat) t v, Try.f8.params[j]? = some t → args[j]? = some v → Value.okWide Try.prog W .any base t v := hval0
  have hW' := hW
  obtain ⟨p, q, hA0, hV, rfl, hfz, hnd⟩ := hW
  have hA : DataW.TrodAll enc Try.prog W 0 (fun _ => true) true Try.f8.params.toList args.toList ds p := hA0
  rw [Try.params8] at hA hval
  obtain ⟨v0, vs0, d0, ds0, p0, q0, hargs, rfl, rfl, h0, r0⟩ := trodAll_cons hA
  obtain ⟨v1, vs1, d1, ds1, p1, q1, rfl, rfl, rfl, h1, r1⟩ := trodAll_cons r0
  obtain ⟨v2, vs2, d2, ds2, p2, q2, rfl, rfl, rfl, h2, r2⟩ := trodAll_cons r1
  obtain ⟨v3, vs3, d3, ds3, p3, q3, rfl, rfl, rfl, h3, r3⟩ := trodAll_cons r2
  obtain ⟨v4, vs4, d4, ds4, p4, q4, rfl, rfl, rfl, h4, r4⟩ := trodAll_cons r3
  obtain ⟨rfl, rfl, rfl⟩ := trodAll_nil r4
  obtain rfl : args = #[v0, v1, v2, v3, v4] := by cases args; simp_all
  obtain ⟨rfl, rfl⟩ := trodVars_none hV
  obtain ⟨a0, len0, cap0, rfl⟩ := okWide_slice Try.underlying24 (hval 0 24 v0 rfl rfl)
  have k0 := h0
  have lt0 : ∀ x ∈ p0, x.block < W.heap.size := by obtain ⟨m, hm⟩ := k0; exact DataW.trod_lt m _ _ _ hm
  obtain ⟨z0, w0⟩ : ∃ zs, IsRow .u8 W a0 len0 cap0 zs := by
    obtain ⟨fuel, hf⟩ := h0
    rcases open_ints Try.underlying24 Try.underlying5 (by kernel_rfl) hf with ⟨hcs, _⟩ | ⟨x, l, c, zs, hcs, _, hl, hm, hz, _, hcell, hwz⟩
    · simp [Value.cells] at hcs
      obtain ⟨rfl, rfl, rfl⟩ := hcs
      exact ⟨[], .inl ⟨rfl, rfl, rfl, rfl⟩⟩
    · simp [Value.cells] at hcs
      obtain ⟨rfl, rfl, rfl⟩ := hcs
      exact ⟨zs, .inr ⟨_, rfl, hl, hm, by simpa using hz, hcell, hwz⟩⟩
  have k1 := h1
  have lt1 : ∀ x ∈ p1, x.block < W.heap.size := by obtain ⟨m, hm⟩ := k1; exact DataW.trod_lt m _ _ _ hm
  obtain ⟨z1, rfl, w1⟩ := open_arg1 W base (hval 1 38 v1 rfl rfl) h1
  obtain ⟨a2, rfl, rfl, rfl, w2⟩ := open_int Try.underlying3 (hval 2 3 v2 rfl rfl) h2
  obtain ⟨a3, rfl, rfl, rfl, w3⟩ := open_int Try.underlying5 (hval 3 5 v3 rfl rfl) h3
  obtain ⟨a4, rfl, rfl, rfl, w4⟩ := open_int Try.underlying3 (hval 4 3 v4 rfl rfl) h4
  clear hA0 hval0
  refine (walk W a0 len0 cap0 z0 w0 z1 w1 a2 w2 a3 w3 a4 w4).mono fun e W' ⟨he, hk⟩ => ?_
  subst he
  have bel := Keep.below hk
  exact ⟨_, rfl, _, _, _, [], _, [], hW', trodAll_mk1 (shut_bool Try.underlying4 _), (trodAll_cons_mk (Below.trod laidOut (by kernel_rfl) (of_decide_eq_true (by kernel_rfl)) k0 bel lt0) (trodAll_cons_mk (Below.trod laidOut (by kernel_rfl) (of_decide_eq_true (by kernel_rfl)) k1 bel lt1) (trodAll_cons_mk (shut_int Try.underlying3 w2) (trodAll_cons_mk (shut_int Try.underlying5 w3) (trodAll_cons_mk (shut_int Try.underlying3 w4) trodAll_mk0))))), rfl, bel.frame _, fun h => by cases h⟩

theorem over : Rows.recAnyRow.holds Try.pinned (OpenSpec.ofChange Rows.recAnySpec) :=
  OpenClaim.holds_of_wide 8 Try.f8 rfl rfl rfl rfl rfl rfl rfl ⟨rfl, rfl, rfl, rfl, rfl⟩ rfl rfl rfl rfl rfl (by kernel_rfl) Try.func8 (by kernel_rfl)
    (of_decide_eq_true (by kernel_rfl)) (by unfold Func.isWrapper; rw [if_neg (of_decide_eq_false (by kernel_rfl))]; exact ⟨rfl, rfl⟩)
    (fun os started H enc _ => lifted os started H enc)

/-- The statement. -/
theorem proved : Rows.RecAnySaid := over
#print axioms proved
end Go.Proofs.Ytgbogbjifpijkaa.recAny
