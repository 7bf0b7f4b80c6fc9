/- ByteEdges: the law returns true and changes nothing that was there. No conditions. -/
import Derived.Test.YtdipknkajmoldaaLawBase
import Derived.Test.YtdipknkajmoldaaRefPut
import Derived.Test.YtdipknkajmoldaaRound
import Derived.Test.YtdipknkajmoldaaRefSum
import Derived.Deep.CutRange
import Derived.Test.YtdipknkajmoldaaRows
import Derived.WalkKit
import Derived.ProofKit
import Derived.OpenShut
import Derived.ShutString
import Derived.ChangeOld
import Derived.Below
namespace Go.Proofs.Ytdipknkajmoldaa.byteEdges
open Go Go.ChangeShapes Go.WideShapes Go.ChangeAt Go.RowKit
open Go.ChangeMaps (open_string shut_string)

theorem own : ownKnob Try.prog.godebug = none := by kernel_rfl
theorem laidOut : laidOutB Try.prog = true := by kernel_rfl

theorem bvs_fill (x : UInt8) (n k : Nat) (hk : k < n) : (bvs (List.replicate k x ++ List.replicate (n - k) 0)).set k (bval x) = bvs (List.replicate (k + 1) x ++ List.replicate (n - (k + 1)) 0) := by
  have e : n - k = (n - (k + 1)) + 1 := by omega
  rw [e, List.replicate_succ, bvs, ← List.map_set, List.set_append_right _ _ (by simp), List.length_replicate, Nat.sub_self, List.set_cons_zero, List.replicate_succ', bvs]
  simp

set_option maxHeartbeats 8000000 in
theorem walk (w : World) (n : Int) (hn : (Lit.int .i64 n).wf = true) (k : Int) (hkw : (Lit.int .i64 k).wf = true) (x : Int) (hx : (Lit.int .u8 x).wf = true) :
    Calls Try.prog 5 #[.int .i64 n, .int .i64 k, .int .u8 x] w fun e w' => e = .returned (.bool true) ∧ Keep NoF w w' := by
  have bn := bounds_i64 hn
  have bk := bounds_i64 hkw
  obtain ⟨xb, hxb⟩ := u8_of (bounds_u8 hx)
  subst hxb
  clear hn hkw hx
  go_enter Try.func5, Try.ntmps5
  go_wp2_with fail
  refine (begun_any w).mono ?_
  rintro e w1 ⟨rfl, hk⟩
  have K1 := Lib.hid hk; clear hk
  by_cases hneg : k < 0
  · go_wp2_with fail
    go_ret
    exact ⟨rfl, K1.out⟩
  · have hneg2 : 0 ≤ k := by omega
    clear hneg
    by_cases hbig : 140000 < k
    · go_wp2_with fail
      go_ret
      exact ⟨rfl, K1.out⟩
    · have hbig2 : k ≤ 140000 := by omega
      clear hbig
      obtain ⟨m, rfl⟩ : ∃ m : Nat, k = m := ⟨k.toNat, by omega⟩
      have hm14 : m ≤ 140000 := by omega
      go_wp2_with (at_make; refine wpList_mk 25 5 (.int .u8 0) 1 Try.underlying25 infoU8 rfl rfl rfl m rfl rfl (by omega) (by unfold maxLen; omega) ?_)
      intro w2 hown hgr
      have K2 := Lib.hid (K1.out.grown hgr (fun k _ e => by cases e) : Keep NoF w w2)
      have O2 : Hid (w2.ownsRow 0 5 1 (.slice (some ⟨w1.heap.size, 0, none⟩) m m) m (bvs (List.replicate 0 xb ++ List.replicate (m - 0) 0))) := by
        show World.ownsRow _ _ _ _ _ _ _
        rw [List.replicate_zero, List.nil_append, Nat.sub_zero, bvs_replicate]; exact hown
      have hwB : Hid (w.heap.size ≤ w1.heap.size) := K1.out.size
      clear hown hgr
      generalize w1.heap.size = B at O2 hwB ⊢
      go_wp2_with fail
      go_loopw [26] (fun i wr => ∃ k : Nat, k ≤ m ∧ i = .int .i64 k ∧ wr.ownsRow 0 5 1 (.slice (some ⟨B, 0, none⟩) m m) m (bvs (List.replicate k xb ++ List.replicate (m - k) 0)) ∧ Keep NoF w wr) (fun i _ => m - (intOf i).toNat)
      case atStart => exact ⟨0, Nat.zero_le _, rfl, O2.out, K2.out⟩
      case round =>
        obtain ⟨k, hk, rfl, hO, hK⟩ := hrel
        clear O2 K2
        by_cases hlt : k < m
        · have hst := hO.stored k (bval xb)
          rw [bvs_fill xb m k hlt] at hst
          obtain ⟨vold, hcd⟩ : ∃ v, wr.cell? ⟨B, k, none⟩ = some v := ⟨_, by rw [hO.cellAt k (by omega)]; exact List.getElem?_eq_getElem (by have := hO.1; omega)⟩
          have hfd := hO.frozenAt k
          have y0 := xb.toNat_lt
          have Hst := Lib.hid hst; have HK := Lib.hid hK
          clear hst hO hK
          go_wp2_with fail
          go_roundw
          case rel => exact ⟨k + 1, by omega, by go_num, Hst.out.1, HK.out.setCell (p := ⟨B, k, none⟩) (fun h => by have := hwB.out; simp only at h; omega) (bval xb)⟩
          case measure => simp [intOf]; omega
        · obtain rfl : k = m := by omega
          have hO' : OwnB wr (.slice (some ⟨B, 0, none⟩) k k) (List.replicate k xb) := by
            have e : List.replicate k xb ++ List.replicate (k - k) 0 = List.replicate k xb := by rw [Nat.sub_self, List.replicate_zero, List.append_nil]
            rw [e] at hO
            rw [OwnB, List.length_replicate]; exact hO
          have hll : (List.replicate k xb).length = k := List.length_replicate
          generalize List.replicate k xb = l at hO' hll
          obtain ⟨ao', cp', e4, sd, _⟩ := hO'.slb
          rw [hll] at e4
          injection e4 with e4 e5 e6
          subst e4 e6
          have hBl : B < wr.heap.size := (World.ownsRow.lt hO B rfl).2
          have SD := Lib.hid sd; have HK := Lib.hid hK; have HL := Lib.hid hll; have BL := Lib.hid hBl
          clear hO hO' sd hK hll e5 hBl
          go_wp2_with fail
          refine (long_any wr.heap.size none [] n _ (out_new wr) (by simp)).mono ?_
          rintro e w3 ⟨rfl, g1, hR1, hk1, hg1⟩
          go_wp2_with fail
          refine (small_any wr.heap.size g1 _ n _ hR1 (by simp [longB_length])).mono ?_
          rintro e w4 ⟨rfl, hs⟩
          obtain ⟨g2, hR2, hk2, hg2⟩ := OutS.trans hk1 hg1 hs
          clear hR1 hk1 hg1 hs
          have hk04 : Keep NoF wr w4 := ((Keep.refl NoF wr).alloc _).trans hk2 (fun _ _ f => f) (fun i hi f => by
            rcases f with f | f
            · subst f; exact absurd hi (Nat.lt_irrefl _)
            · rcases hg2 with h | h
              · cases f
              · cases f)
          have hs4 := SD.out.keep hk04 (fun _ _ f => f)
          have hconv := run_convert_SlB (P := Try.prog) hs4 (src := 25) (dst := 9) Try.underlying25 Try.underlying5 Try.underlying9
          rw [HL.out] at hconv
          have K04 := Lib.hid hk04
          clear hs4 hk04
          go_wp2_with fail
          have hbs : (bstr l).size = k := by rw [bstr_size, HL.out]
          refine (text_any wr.heap.size g2 _ (bstr l) _ hR2 (by simp [longB_length, smallB_length]) (by omega)).mono ?_
          rintro e w5 ⟨rfl, hs⟩
          obtain ⟨g3, hR3, hk3, hg3⟩ := OutS.trans hk2 hg2 hs
          have hbd : (bstr l).data.toList = l := by simp [bstr]
          rw [hbd, List.nil_append] at hR3
          have k05 : Keep NoF wr w5 := ((Keep.refl NoF wr).alloc _).trans hk3 (fun _ _ f => f) (fun i hi f => by
            rcases f with f | f
            · subst f; exact absurd hi (Nat.lt_irrefl _)
            · cases f)
          have s5 := SD.out.keep k05 (fun _ _ f => f)
          have cv : ∀ W, Keep NoF w5 W → (convert 25 9 (.slice (some ⟨B, 0, none⟩) k k)).run Try.prog W = .ok (.string (bstr l)) W := by
            intro W hW
            have h := run_convert_SlB (P := Try.prog) (s5.keep hW (fun _ _ f => f)) (src := 25) (dst := 9) Try.underlying25 Try.underlying5 Try.underlying9
            rwa [HL.out] at h
          have R3 := Lib.hid hR3; have K05 := Lib.hid k05; have CV := Lib.hid cv; have HBS := Lib.hid hbs; have HBD := Lib.hid hbd
          have hcv0 := cv w5.drew (Keep.refl NoF w5).drew
          clear hR2 hk2 hg2 hs hR3 hk3 hg3 k05 s5 cv hconv hbs hbd
          go_wp2_with fail
          obtain ⟨tl, htl⟩ : ∃ tl, (textB l).length = tl := ⟨_, rfl⟩
          have htl2 : tl ≤ 65537 := by
            rw [← htl, textB, List.length_append, smallB_length, List.length_take]
            have := Nat.mod_lt l.length (show 0 < 65536 by decide)
            have := Nat.min_le_left (l.length % 65536) l.length
            omega
          have HTL := Lib.hid htl; clear htl
          go_cut [11] from 46 to 54 (fun v wx => ∃ ao cp, v = .slice ao (10 + tl) cp ∧ OwnB wx v (longB n ++ smallB n ++ textB l) ∧ Keep NoF w5 wx)
          case first =>
            go_region_law (first
              | (refine step_app 25 25 5 (.int .u8 0) 1 1 Try.underlying25 infoU8 rfl (by decide) (by decide) rfl rfl rfl rfl hownc hsrcd (by omega) ?_; intro ao7 cp7 we hown7 hgr7 hfr7; have OE := Lib.hid (OwnB.of_app hown7 (by simp [longB_length, smallB_length]) HTL.out.symm rfl rfl); have KE := Lib.hid (KD.out.grown hgr7 (fun k hk e => by have := FC.out k e; omega)); clear hownc hsrcd hown7 hgr7 hfr7 HOC KD FC)
              | (refine step_app 25 25 5 (.int .u8 0) 1 1 Try.underlying25 infoU8 rfl (by decide) (by decide) rfl rfl rfl rfl howna hsrcb (by omega) ?_; intro ao6 cp6 wc hown6 hgr6 hfr6; have HOC := Lib.hid (OwnB.of_app hown6 (longB_length n).symm (smallB_length n).symm rfl rfl); have kC := KB.out.grown hgr6 (fun k hk e => by have := FA.out k e; omega); have hcvc := CV.out wc kC; have KC := Lib.hid kC; have FC : Hid (∀ k, (Value.slice ao6 (8 + 2) cp6).ownBlock = some k → w5.heap.size ≤ k) := (fun k hk => by
                  rcases hfr6 with h | h <;> rw [h] at hk
                  · exact FA.out k hk
                  · injection hk with hk
                    have := KB.out.size
                    omega); clear howna hsrcb hown6 hgr6 hfr6 kC FA KB)
              | (go_simp; go_at_call 41; refine (refText_any _ _ (by have := HBS.out; omega)).mono ?_; rintro e wd ⟨vd, rfl, hOd, hKd, hFd⟩; rw [HBD.out] at hOd; have KD := Lib.hid (KC.out.trans' hKd); have hownc := HOC.out.keep hKd (fun _ _ f => f); unfold OwnB at hownc; rw [List.length_append, longB_length, smallB_length] at hownc; obtain ⟨aod, cpd, hvd, sld, _⟩ := hOd.slb; rw [HTL.out] at hvd; subst hvd; have hsrcd := OwnB.src (P := Try.prog) sld HTL.out (t := 25) Try.underlying25; clear hOd hKd hFd sld KC)
              | (go_simp; go_at_call 40; refine (refSmall_any _ _).mono ?_; rintro e wb ⟨vb, rfl, hOb, hKb, hFb⟩; have kB := KA.out.trans' hKb; have hcvb := CV.out wb kB; have KB := Lib.hid kB; have howna := OA.out.keep hKb (fun _ _ f => f); unfold OwnB at howna; rw [longB_length] at howna; obtain ⟨aob, cpb, hvb, slb, _⟩ := hOb.slb; rw [smallB_length] at hvb; subst hvb; have hsrcb := OwnB.src (P := Try.prog) slb (smallB_length n) (t := 25) Try.underlying25; clear hOb hKb hFb slb kB KA OA)
              | (go_simp; go_at_call 39; refine (refLong_any _ _).mono ?_; rintro e wa ⟨va, rfl, hOa, hKa, hFa⟩; have kA := (hKa.of_drew : Keep NoF w5 wa); have hcva := CV.out wa kA; have OA := Lib.hid hOa; have KA := Lib.hid kA; have FA : Hid (∀ k, va.ownBlock = some k → w5.heap.size ≤ k) := hFa; clear hOa hKa kA hFa))
            all_goals
              go_wp2_with fail
              go_meet
              exact ⟨ao7, cp7, rfl, OE.out, KE.out⟩
          case rest =>
            obtain ⟨ao7, cp7, rfl, hOE, hKE⟩ := hcut
            have OE := Lib.hid hOE; have KE := Lib.hid hKE
            clear hOE hKE
            have hR3 := R3.out
            obtain ⟨ao8, cp8, e8, sl8, _⟩ := OE.out.slb
            obtain ⟨T, hT⟩ : ∃ T, longB n ++ smallB n ++ textB l = T := ⟨_, rfl⟩
            obtain ⟨tt, htt⟩ : ∃ tt, T.length = tt := ⟨_, rfl⟩
            rw [hT] at hR3 e8 sl8
            rw [htt] at e8
            obtain ⟨v, hv, rfl⟩ := hR3
            obtain ⟨ao, cp, hvv, hsl, hbk⟩ := hv.slb
            rw [htt] at hvv
            subst hvv
            have hh : wc.heap[wr.heap.size]? = some (.cells #[.slice ao tt cp] 27 (0, 0)) := by
              rw [KE.out.block _ (lt_of_heap hv.1) (fun f => f)]; exact hv.1
            have hsl2 := hsl.keep KE.out (fun _ _ f => f)
            have hlt2 : ∀ g, blockOf ao = some g → g < wc.heap.size := fun g hg => Nat.lt_of_lt_of_le (World.ownsRow.lt hv.2.1 g (hbk ▸ hg)).2 KE.out.size
            injection e8 with e8 e9 e10
            subst e8 e10
            have hc := cell_of_heap hh 0
            simp at hc
            have hrd := read_any ao cp T wc hsl2 hlt2
            rw [htt] at hrd
            have HH := Lib.hid hh; have SL2 := Lib.hid hsl2; have SL8 := Lib.hid sl8; have HT := Lib.hid hT; have HTT := Lib.hid htt; have E9 := Lib.hid e9; have HRD := Lib.hid hrd
            clear hh hsl2 hsl sl8 hT htt e9 hbk hv OE hlt2 hrd R3
            go_wp2_with fail
            refine HRD.out.mono ?_
            rintro e wf ⟨rfl, hRf, hkf⟩
            have kf := KE.out.trans' hkf
            have hc2 := hkf.cell' hc (fun f => f)
            have sA := SL2.out.keep hkf (fun _ _ f => f)
            have sB := SL8.out.keep hkf (fun _ _ f => f)
            have cvA := run_convert_SlB (P := Try.prog) (sA.keep (Keep.refl NoF wf).drew (fun _ _ f => f)) (src := 25) (dst := 9) Try.underlying25 Try.underlying5 Try.underlying9
            have cvB := run_convert_SlB (P := Try.prog) (sB.keep (Keep.refl NoF wf).drew (fun _ _ f => f)) (src := 25) (dst := 9) Try.underlying25 Try.underlying5 Try.underlying9
            rw [HTT.out] at cvA cvB
            have etl : tt = 10 + tl := by rw [← HTT.out, ← HT.out]; simp [longB_length, smallB_length, HTL.out]; omega
            rw [etl] at cvB
            have KF := Lib.hid kf
            have HBZ : Hid (w.heap.size ≤ wc.heap.size) := (HK.out.trans' (K05.out.trans' KE.out)).size
            obtain ⟨q, hq⟩ : ∃ q : Nat, (n % 65536).toNat = q := ⟨_, rfl⟩
            have hmask : bits .and .i64 n 65535 = (q : Int) := by rw [and_65535_i64]; omega
            obtain ⟨T1, hT1⟩ : ∃ T1, smallB n ++ textB l = T1 := ⟨_, rfl⟩
            obtain ⟨lt, hlt⟩ : ∃ lt, l.take (l.length % 65536) = lt := ⟨_, rfl⟩
            have hlsz : (bstr lt).size = k % 65536 := by rw [bstr_size, ← hlt, List.length_take, HL.out]; have := Nat.mod_le k 65536; omega
            have hmask2 : bits .and .i64 (k : Int) 65535 = ((k % 65536 : Nat) : Int) := by rw [and_65535_i64]; omega
            obtain ⟨q2, hq2⟩ : ∃ q2, k % 65536 = q2 := ⟨_, rfl⟩
            rw [hq2] at hlsz hmask2
            have r1 : wrap64 ((rdN 8 (some T) : Nat) : Int) = n ∧ rdS 8 (some T) = some T1 := by
              rw [← HT.out, ← hT1, List.append_assoc]; exact rd_long n bn _
            have r2 : rdN 2 (some T1) = q ∧ rdS 2 (some T1) = some (textB l) := by
              rw [← hT1, ← hq]; exact rd_small n _
            have r3 : rdT (some (textB l)) = lt ∧ rdTs (some (textB l)) = some [] := by
              have := rd_text l []
              rw [List.append_nil] at this
              rw [← hlt]; exact this
            have RR1 := Lib.hid r1; have RR2 := Lib.hid r2; have RR3 := Lib.hid r3
            have C1 := Lib.hid (hRf.keep (Keep.refl NoF wf).drew (fun f => f) (fun _ _ f => f))
            clear hkf sA sB hc HRD SL2 SL8 HH KE kf hRf etl hq hT1 hlt hq2 r1 r2 r3 HTL HTT HT
            go_wp2_with fail
            go_region_law (first
              | (go_simp; go_at_call 25; have c := inend_any _ _ _ _ C4.out; rw [show endOf (some ([] : List UInt8)) = true from rfl] at c; refine c.mono ?_; clear c; rintro e wE ⟨rfl, rfl⟩)
              | (go_simp; go_at_call 33; have c := intext_any _ _ _ _ C3.out; rw [RR3.out.1, RR3.out.2] at c; refine c.mono ?_; clear c; rintro e wT ⟨rfl, hRt, hkt⟩; have C4 := Lib.hid hRt; have KT := Lib.hid (KS.out.trans' hkt); clear hRt hkt C3 KS)
              | (go_simp; go_at_call 29; have c := insmall_any _ _ _ _ C2.out; rw [RR2.out.1, RR2.out.2] at c; refine c.mono ?_; clear c; rintro e wS ⟨rfl, hRt, hkt⟩; have C3 := Lib.hid hRt; have KS := Lib.hid (KL.out.trans' hkt); clear hRt hkt C2 KL)
              | (go_simp; go_at_call 31; have c := inlong_any _ _ _ _ C1.out; rw [RR1.out.1, RR1.out.2] at c; refine c.mono ?_; clear c; rintro e wL ⟨rfl, hRt, hkt⟩; have C2 := Lib.hid hRt; have KL := Lib.hid hkt; clear hRt hkt C1))
            all_goals
              go_wp2_with fail
              go_ret
              exact ⟨rfl, (HK.out.trans' (K05.out.trans' KF.out)).trans (KT.out.of_drew) (fun _ _ f => f) (fun i hi f => by have := HBZ.out; omega)⟩

set_option linter.unusedVariables false
set_option maxRecDepth 100000 in
theorem lifted (os : Os) (started : os.Started) (H : Type) (enc : TypeId × Value → H) :
    ReturnsInHanded {} Try.checked os 5 .any (Rows.byteEdgesSpec.pre6 enc Try.prog Try.f5 Rows.byteEdgesRow.domain false) (Rows.byteEdgesSpec.post enc Try.prog Try.f5 false true false false) := by
  refine returnsInHanded_of_change (C := Try.checked) own started (by kernel_rfl) Try.func5
    (ChangeSpec.witness6 (enc := enc) (C := Try.checked) false ⟨#[], #[.int .i64 0, .int .i64 0, .int .u8 0], []⟩ 8 (by kernel_rfl) (by kernel_rfl) (by kernel_rfl) (by kernel_rfl)) ?_
  intro W base args ds gs before hval0 hW hcnd _
  have hval : ∀ (j : Nat) t v, Try.f5.params[j]? = some t → args[j]? = some v → Value.okWide Try.prog W .any base t v := hval0
  have hW' := hW
  obtain ⟨p, q, hA0, hV, rfl, hfz, hnd⟩ := hW
  have hA : DataW.TrodAll enc Try.prog W 0 (fun _ => true) true Try.f5.params.toList args.toList ds p := hA0
  rw [Try.params5] at hA hval
  obtain ⟨v0, vs0, d0, ds0, p0, q0, hargs, rfl, rfl, h0, r0⟩ := trodAll_cons hA
  obtain ⟨v1, vs1, d1, ds1, p1, q1, rfl, rfl, rfl, h1, r1⟩ := trodAll_cons r0
  obtain ⟨v2, vs2, d2, ds2, p2, q2, rfl, rfl, rfl, h2, r2⟩ := trodAll_cons r1
  obtain ⟨rfl, rfl, rfl⟩ := trodAll_nil r2
  obtain rfl : args = #[v0, v1, v2] := by cases args; simp_all
  obtain ⟨rfl, rfl⟩ := trodVars_none hV
  obtain ⟨a0, rfl, rfl, rfl, w0⟩ := open_int Try.underlying2 (hval 0 2 v0 rfl rfl) h0
  obtain ⟨a1, rfl, rfl, rfl, w1⟩ := open_int Try.underlying3 (hval 1 3 v1 rfl rfl) h1
  obtain ⟨a2, rfl, rfl, rfl, w2⟩ := open_int Try.underlying5 (hval 2 5 v2 rfl rfl) h2
  clear hA0 hval0
  refine (walk W a0 w0 a1 w1 a2 w2).mono fun e W' ⟨he, hk⟩ => ?_
  subst he
  have bel := Keep.below hk
  exact ⟨_, rfl, _, _, _, [], _, [], hW', trodAll_mk1 (shut_bool Try.underlying4 _), (trodAll_cons_mk (shut_int Try.underlying2 w0) (trodAll_cons_mk (shut_int Try.underlying3 w1) (trodAll_cons_mk (shut_int Try.underlying5 w2) trodAll_mk0))), rfl, bel.frame _, fun h => by cases h⟩

theorem over : Rows.byteEdgesRow.holds Try.pinned (OpenSpec.ofChange Rows.byteEdgesSpec) :=
  OpenClaim.holds_of_wide 5 Try.f5 rfl rfl rfl rfl rfl rfl rfl ⟨rfl, rfl, rfl, rfl, rfl⟩ rfl rfl rfl rfl rfl (by kernel_rfl) Try.func5 (by kernel_rfl)
    (of_decide_eq_true (by kernel_rfl)) (by unfold Func.isWrapper; rw [if_neg (of_decide_eq_false (by kernel_rfl))]; exact ⟨rfl, rfl⟩)
    (fun os started H enc _ => lifted os started H enc)

/-- The statement. -/
theorem proved : Rows.ByteEdgesSaid := over
#print axioms proved
end Go.Proofs.Ytdipknkajmoldaa.byteEdges
