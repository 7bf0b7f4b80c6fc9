/- WireTurn: the law returns true and changes nothing that was there. No conditions. -/
import Derived.Test.YtlabhbjampkhpaaGreatTurn15
import Derived.Test.YtlabhbjampkhpaaGreatTells15
import Derived.Test.YtlabhbjampkhpaaGreatLawBase
import Derived.Test.YtlabhbjampkhpaaGreatRows
import Derived.WalkKit
import Derived.ProofKit
import Derived.OpenShut
import Derived.ShutString
import Derived.ChangeOld
import Derived.Below
namespace Go.Proofs.YtlabhbjampkhpaaGreat.wireTurn
open Go Go.ChangeShapes Go.WideShapes Go.ChangeAt Go.RowKit
open Go.ChangeMaps (open_string shut_string)

theorem own : ownKnob Tryz.prog.godebug = none := by kernel_rfl
theorem laidOut : laidOutB Tryz.prog = true := by kernel_rfl

open Go.Proofs Go.RowKit
set_option maxRecDepth 40000 in
theorem open_arg0 {H : Type} {enc : TypeId × Value → H} {r : Reach} {b0 : Nat} {v : Value} {d : DataW H} {p : List MemPlace} (W : World) (_base : Nat)
    (hv : Value.okWide Tryz.prog W r b0 23 v) (h : DataW.Trod enc Tryz.prog W 0 (fun _ => true) true 23 v d p) : ∃ z : PackV, v = packVal z ∧ z.Ok := open_packet hv h
theorem neSl (a : Option Addr) (n cp : Nat) (w : World) : (binOp .neq 24 (.slice a n cp) (.slice none 0 0)).run Tryz.prog w = .ok (.bool (!a.isNone)) w := run_neq_slice_nil_any w 24 5 a n cp 0 0 Tryz.underlying24
theorem own_some {w : World} {v : Value} {l : List UInt8} {n : Nat} (h : OwnB w v l) (hn : l.length = n) (h0 : 0 < n) : ∃ g cp, v = .slice (some ⟨g, 0, none⟩) n cp ∧ SlB w (some ⟨g, 0, none⟩) cp l ∧ g < w.heap.size := by
  subst hn
  have hs := h.slb
  rcases h.2 with ⟨rfl, e⟩ | ⟨g, cap, cur, rfl, _⟩
  · omega
  · obtain ⟨ao, cp, e, hsl, _⟩ := hs
    injection e with e1 e2 e3
    subst e1
    subst e3
    exact ⟨g, cap, rfl, hsl, h.lt g rfl⟩
theorem xor_of (a x : UInt8) : ∃ y : UInt8, y.toNat = a.toNat ^^^ x.toNat ∧ bits .xor .u8 (a.toNat : Int) (x.toNat : Int) = (y.toNat : Int) := by
  have hl : a.toNat ^^^ x.toNat < 256 := Nat.xor_lt_two_pow (n := 8) a.toNat_lt x.toNat_lt
  have h := u8_xor_nat a.toNat x.toNat a.toNat_lt x.toNat_lt
  refine ⟨UInt8.ofNat (a.toNat ^^^ x.toNat), by rw [UInt8.toNat_ofNat']; omega, ?_⟩
  rw [UInt8.toNat_ofNat', Nat.mod_eq_of_lt (by omega)]
  exact h
set_option maxHeartbeats 16000000 in
set_option maxRecDepth 20000 in
theorem walk (w : World) (P : PackV) (hp : P.Ok) (at_ : Int) (hat : (Lit.int .i64 at_).wf = true) (x : Int) (hx : (Lit.int .u8 x).wf = true) :
    Calls Tryz.prog 4 #[packVal P, .int .i64 at_, .int .u8 x] w fun e w' => e = .returned (.bool true) ∧ Keep NoF w w' := by
  have ba := bounds_i64 hat
  obtain ⟨xb, rfl⟩ := u8_of (bounds_u8 hx)
  have HOK := Lib.hid hp
  obtain ⟨k, f, t, d, n, y, hP⟩ : ∃ k f t d n y, P = (⟨k, f, t, d, n, y⟩ : PackV) := ⟨_, _, _, _, _, _, rfl⟩
  have HHP := Lib.hid hP
  have HPV : Hid (packVal P = .agg #[.int .i64 k, .int .i64 f, .int .i64 t, .int .i64 d, .int .i64 n, .bool y]) := by rw [HHP.out]; exact Lib.hid rfl
  rw [HPV.out]
  have HRK : Hid (∀ W, Calls Tryz.prog 16 #[.agg #[.int .i64 k, .int .i64 f, .int .i64 t, .int .i64 d, .int .i64 n, .bool y]] W fun e w' => e = .returned (.bool (packB P)) ∧ Keep NoF W w') := Lib.hid fun W => by rw [← HPV.out]; exact rpacket_any P W HOK.out
  clear hP hp hat hx
  go_enter Tryz.func4, Tryz.ntmps4
  obtain ⟨B, hhB⟩ : ∃ B, w.heap.size = B := ⟨_, rfl⟩
  go_upto_region 1 with fail
  have hrB := heap_new w (.cells #[.int .i64 k, .int .i64 f, .int .i64 t, .int .i64 d, .int .i64 n, .bool y] 23 (0, 0))
  have hkB := keep_alloc w (.cells #[.int .i64 k, .int .i64 f, .int .i64 t, .int .i64 d, .int .i64 n, .bool y] 23 (0, 0))
  have hsB : (w.alloc (.cells #[.int .i64 k, .int .i64 f, .int .i64 t, .int .i64 d, .int .i64 n, .bool y] 23 (0, 0))).heap.size = w.heap.size + 1 := size_alloc _ _
  show Code.wp _ _ _ _ (w.alloc (.cells #[.int .i64 k, .int .i64 f, .int .i64 t, .int .i64 d, .int .i64 n, .bool y] 23 (0, 0)))
  rw [hhB] at hrB hsB
  generalize w.alloc (.cells #[.int .i64 k, .int .i64 f, .int .i64 t, .int .i64 d, .int .i64 n, .bool y] 23 (0, 0)) = W1 at hrB hkB hsB ⊢
  (try rw [hhB])
  have HCB : Hid (∀ W : World, W.heap[B]? = W1.heap[B]? → W.cell? ⟨B, 0, none⟩ = some (.int .i64 k) ∧ W.cell? ⟨B, 1, none⟩ = some (.int .i64 f) ∧ W.cell? ⟨B, 2, none⟩ = some (.int .i64 t) ∧ W.cell? ⟨B, 3, none⟩ = some (.int .i64 d) ∧ W.cell? ⟨B, 4, none⟩ = some (.int .i64 n) ∧ W.cell? ⟨B, 5, none⟩ = some (.bool y)) := Lib.hid fun W hW => by
    have e := hW.trans hrB
    refine ⟨?_, ?_, ?_, ?_, ?_, ?_⟩
    all_goals (rw [cell_of_heap e]; rfl)
  have HKB := Lib.hid hkB; have HRB := Lib.hid hrB; have HLB : Hid (B < W1.heap.size ∧ w.heap.size = B) := Lib.hid ⟨by omega, hhB⟩
  clear hrB hkB hsB hhB
  go_wp2_with fail
  refine (begun15_any W1).mono ?_
  rintro e w1 ⟨rfl, hk1⟩
  have K1 := Lib.hid hk1
  have c0 := HCB.out w1 (K1.out.block B HLB.out.1 (fun f => f))
  obtain ⟨d0, d1, d2, d3, d4, d5⟩ := c0
  clear hk1
  go_upto_region 4 with fail
  rcases hbp : packB P with _ | _
  · have HPE := Lib.hid (fun W => wenc_bad P W HOK.out hbp)
    rw [HPV.out] at HPE
    have hrk := HRK.out
    rw [hbp] at hrk
    have HRK2 := Lib.hid hrk
    clear hrk hbp
    go_wp2_with fail
    refine (HPE.out w1).mono ?_
    rintro e w2 ⟨rfl, hk2⟩
    have K2 := Lib.hid (K1.out.trans' hk2)
    clear hk2 d0 d1 d2 d3 d4 d5
    obtain ⟨d0, d1, d2, d3, d4, d5⟩ := HCB.out w2 (K2.out.block B HLB.out.1 (fun f => f))
    have e8 := fun W => eqSl none 0 0 W
    have n8 := fun W => neSl none 0 0 W
    simp only [Option.isNone_none] at e8
    simp only [Option.isNone_none, Bool.not_true] at n8
    go_wp2_with fail
    refine (HRK2.out w2).mono ?_
    rintro e w3 ⟨rfl, hk3⟩
    have K3 := Lib.hid (K2.out.trans' hk3)
    clear hk3
    go_wp2_with fail
    go_ret
    exact ⟨rfl, HKB.out.trans' K3.out⟩
  · have HPE := Lib.hid (fun W => wenc_ok P W HOK.out hbp)
    rw [HPV.out] at HPE
    have hrk := HRK.out
    rw [hbp] at hrk
    have HRK2 := Lib.hid hrk
    have HTD := Lib.hid (turn_dec P ⟨HOK.out, hbp⟩)
    obtain ⟨A, hA⟩ : ∃ A, wireB P = A := ⟨_, rfl⟩
    have HPL : Hid (A.length = 21) := Lib.hid (by rw [← hA]; exact wireB_length P)
    rw [hA] at HPE HTD
    clear hrk hbp hA
    go_wp2_with fail
    refine (HPE.out w1).mono ?_
    rintro e w2 ⟨v, rfl, hv, hk2, hfv⟩
    have K2 := Lib.hid (K1.out.trans' hk2)
    obtain ⟨g, cp, rfl, hsl, hgl⟩ := own_some hv HPL.out (by decide)
    have HSL := Lib.hid hsl
    have HGL := Lib.hid hgl
    clear hk2 d0 d1 d2 d3 d4 d5 hv hsl hgl hfv
    have e8 := fun W => eqSl (some ⟨g, 0, none⟩) 21 cp W
    have n8 := fun W => neSl (some ⟨g, 0, none⟩) 21 cp W
    simp only [Option.isNone_some] at e8
    simp only [Option.isNone_some, Bool.not_false] at n8
    by_cases hneg : at_ < 0
    · obtain ⟨d0, d1, d2, d3, d4, d5⟩ := HCB.out w2 (K2.out.block B HLB.out.1 (fun f => f))
      go_wp2_with fail
      refine (HRK2.out w2).mono ?_
      rintro e w3 ⟨rfl, hk3⟩
      have K3 := Lib.hid (K2.out.trans' hk3)
      clear hk3
      go_wp2_with fail
      go_ret
      exact ⟨rfl, HKB.out.trans' K3.out⟩
    · obtain ⟨N, rfl⟩ : ∃ N : Nat, at_ = N := ⟨at_.toNat, by omega⟩
      have hneg2 : (0 : Int) ≤ N := by omega
      obtain ⟨j, hj⟩ : ∃ j : Nat, N % 21 = j := ⟨_, rfl⟩
      have hj21 : j < 21 := by omega
      have hr : (N : Int) % 21 = (j : Int) := by omega
      have hr2 : (N : Int).tmod 21 = (j : Int) := by rw [Int.tmod_eq_emod_of_nonneg hneg2]; exact hr
      obtain ⟨yb, hyb, hxor⟩ := xor_of (A.getD j 0) xb
      have HXOR := Lib.hid hxor
      have HDEC : Hid (decW (A.set j yb) = decide (xb = 0)) := Lib.hid (HTD.out j hj21 xb yb hyb)
      have HJ := Lib.hid hj21
      have hnil := World.ownsRow_nil w2 0 5 1
      have hsrc := OwnB.src (P := Tryz.prog) HSL.out HPL.out (t := 24) Tryz.underlying24
      clear hneg hj hxor hyb ba
      go_wp2_with (at_builtin; refine wpList_app 24 24 5 (.int .u8 0) 1 1 Tryz.underlying24 infoU8 rfl (by decide) (by decide) rfl rfl rfl rfl hnil hsrc (by omega) ?_)
      intro ao3 cp3 w3 hown hgr hfr
      try simp only [Nat.zero_add, List.nil_append] at hown hfr
      have k23 : Keep NoF w2 w3 := (Keep.refl NoF w2).grown hgr (fun k _ e => by cases e)
      have hO3 : OwnB w3 (.slice ao3 21 cp3) A := by rw [OwnB, HPL.out]; exact hown
      obtain ⟨g3, cp3', hv3, _, hg3⟩ := own_some hO3 HPL.out (by decide)
      injection hv3 with hv3 _ hv4
      subst hv3 hv4
      have hg2 : w2.heap.size ≤ g3 := by
        rcases hfr with h | h
        · cases h
        · have h' : g3 = w2.heap.size := Option.some.inj h
          omega
      have hcell : w3.cell? ⟨g3, j, none⟩ = some (.int .u8 ((A.getD j 0).toNat : Int)) := by
        rw [hown.cellAt _ (by omega), bvs, List.getElem?_map, List.getElem?_eq_getElem (by rw [HPL.out]; exact hj21), List.getD_eq_getElem?_getD, List.getElem?_eq_getElem (by rw [HPL.out]; exact hj21)]; rfl
      have hfrz := hown.frozenAt j
      have hst := hown.stored j (bval yb)
      have HST := Lib.hid hst; have K23 := Lib.hid k23; have HG3 := Lib.hid (And.intro hg2 hg3)
      have hjn : (j : Int) < 21 := by omega
      have hjn0 : (0 : Int) ≤ j := by omega
      have hxor2 := HXOR.out
      generalize hax : (A.getD j 0).toNat = ax at hcell hxor2
      clear hnil hsrc hown hgr hfr k23 hO3 hst hg2 hg3 hax
      go_upto_region 9 with fail
      skip
      have h4 : OwnB (w3.setCell ⟨g3, j, none⟩ (bval yb)) (.slice (some ⟨g3, 0, none⟩) 21 cp3) (A.set j yb) := by
        have := HST.out.1
        rw [OwnB, List.length_set, HPL.out, bvs, List.map_set]
        exact this
      have k4 : Keep NoF w2 (w3.setCell ⟨g3, j, none⟩ (bval yb)) := K23.out.setCell (p := ⟨g3, j, none⟩) (fun h => by have := HG3.out; simp only at h; omega) _
      show Code.wp _ _ _ _ (w3.setCell ⟨g3, j, none⟩ (bval yb))
      generalize w3.setCell ⟨g3, j, none⟩ (bval yb) = W4 at h4 k4 ⊢
      have hl4 : (A.set j yb).length = 21 := by rw [List.length_set, HPL.out]
      obtain ⟨ao4, cp4, hv4, hs4, hb4⟩ := h4.slb
      rw [hl4] at hv4
      injection hv4 with hv5 _ hv6
      subst hv5
      subst hv6
      have hdk := decPk_ok (A.set j yb)
      have hd4 := wdec_at (some ⟨g3, 0, none⟩) 21 cp3 (A.set j yb) W4 hs4 hl4 (fun g hg => h4.lt g (by rw [← hb4]; exact hg))
      unfold WDecPost at hd4
      rw [HDEC.out] at hd4
      generalize decPk (A.set j yb) = r at hd4
      obtain ⟨rk, rf, rt, rd, rn, ry⟩ := r
      unfold packVal at hd4
      simp only at hd4
      have HD4 := Lib.hid hd4
      have K4 := Lib.hid k4
      clear h4 k4 hl4 hs4 hb4 hdk hd4 hcell hfrz hxor2
      go_wp2_with fail
      refine HD4.out.mono ?_
      rintro e w5 ⟨rfl, hk5⟩
      have K5 := Lib.hid (K4.out.trans' hk5)
      clear hk5
      obtain ⟨er, her⟩ : ∃ er : Int, (if decide (xb = 0) = true then (0 : Int) else 1) = er := ⟨_, rfl⟩
      rw [her]
      have HER := Lib.hid her
      clear her
      have hz : ∀ (W : World) (ao : Option Addr) (m cpm : Nat) (l : List UInt8), SlB W ao cpm l → l.length = m → m ≠ 21 → (∀ g, blockOf ao = some g → g < W.heap.size) → Calls Tryz.prog 18 #[.slice ao m cpm] W fun e w' => e = .returned (.tuple #[.agg #[.int .i64 0, .int .i64 0, .int .i64 0, .int .i64 0, .int .i64 0, .bool false], .int .i64 1]) ∧ Keep NoF W w' := fun W ao m cpm l hs hl hm hb => by
        have h1 := wdec_at ao m cpm l W hs hl hb
        have hd := dec_badlen (l := l) (by rw [hl]; exact hm)
        unfold WDecPost at h1
        rw [decPk_bad hd, hd] at h1
        exact h1
      have HZ := Lib.hid hz
      clear hz
      have hsz5 := HGL.out
      have HS5 : Hid (∀ W, Keep NoF w2 W → SlB W (some ⟨g, 0, none⟩) cp A ∧ g < W.heap.size) := Lib.hid fun W hW => ⟨HSL.out.keep hW (fun _ _ f => f), Nat.lt_of_lt_of_le HGL.out hW.size⟩
      have hjc : (j : Int) ≤ cp := by have := HSL.out.1; rw [HPL.out] at this; omega
      have HTK : Hid ((A.take j).length = j) := Lib.hid (by rw [List.length_take, HPL.out]; omega)
      clear hsz5
      go_wp2_with fail
      refine (HZ.out _ (some ⟨g, 0, none⟩) j cp (A.take j) ((HS5.out _ (K5.out.alloc _)).1.take j) HTK.out (by have := HJ.out; omega) (fun g' hg' => by
        injection hg' with hg'
        rw [← hg']
        exact (HS5.out _ (K5.out.alloc _)).2)).mono ?_
      rintro e w6 ⟨rfl, hk6⟩
      have K6 := Lib.hid ((K5.out.alloc _).trans' hk6)
      clear hk6
      go_upto_region 11 with fail
      have k7 : Keep NoF w2 (w6.alloc (.cells #[.int .i64 0, .int .i64 0, .int .i64 0, .int .i64 0, .int .i64 0, .bool false] 23 (0, 0))) := K6.out.alloc _
      show Code.wp _ _ _ _ (w6.alloc (.cells #[.int .i64 0, .int .i64 0, .int .i64 0, .int .i64 0, .int .i64 0, .bool false] 23 (0, 0)))
      generalize w6.alloc (.cells #[.int .i64 0, .int .i64 0, .int .i64 0, .int .i64 0, .int .i64 0, .bool false] 23 (0, 0)) = W7 at k7 ⊢
      have K7 := Lib.hid k7
      have hnil := World.ownsRow_nil W7 0 5 1
      have hsrc := OwnB.src (P := Tryz.prog) (HS5.out W7 k7).1 HPL.out (t := 24) Tryz.underlying24
      clear k7
      go_wp2_with (at_builtin; refine wpList_app 24 24 5 (.int .u8 0) 1 1 Tryz.underlying24 infoU8 rfl (by decide) (by decide) rfl rfl rfl rfl hnil hsrc (by omega) ?_)
      intro ao8 cp8 w8 hown8 hgr8 hfr8
      try simp only [Nat.zero_add, List.nil_append] at hown8 hfr8
      have k8 : Keep NoF W7 w8 := (Keep.refl NoF W7).grown hgr8 (fun k _ e => by cases e)
      have hf8 : ∀ j, (Value.slice ao8 21 cp8).ownBlock = some j → w2.heap.size ≤ j := fun j hj => by
        rcases hfr8 with h | h
        · rw [h] at hj; cases hj
        · rw [h] at hj
          have h' : W7.heap.size = j := Option.some.inj hj
          have := K7.out.size
          omega
      have A8 : Hid (AccI w2 w8 (.slice ao8 21 cp8) A) := Lib.hid ⟨by rw [OwnB, HPL.out]; exact hown8, K7.out.trans' k8, hf8⟩
      have A9 := Lib.hid (A8.out.still (keep_alloc w8 (.cells #[.int .u8 (xb.toNat : Int)] 5 (0, 0))))
      have hrow2 := A9.out.row HPL.out
      have hlit := OwnB.lit w8 [xb] #[.int .u8 (xb.toNat : Int)] 1 rfl (by decide) rfl
      have hsrc2 := own_srcN (P := Tryz.prog) (n := 1) hlit rfl Tryz.underlying24
      clear hnil hsrc hown8 hgr8 hfr8 k8 hf8 hlit
      go_wp2_with (at_builtin; refine wpList_app 24 24 5 (.int .u8 0) 1 1 Tryz.underlying24 infoU8 rfl (by decide) (by decide) rfl rfl rfl rfl hrow2 hsrc2 (by omega) ?_)
      intro ao10 cp10 w10 hown10 hgr10 hfr10
      have hA10 := A9.out.app hown10 HPL.out.symm rfl rfl hgr10 (by rw [size_alloc]; exact hfr10)
      have hl10 : (A ++ [xb]).length = 22 := by rw [List.length_append, HPL.out]; rfl
      obtain ⟨ao11, cp11, hv11, hs11, hb11⟩ := hA10.own.slb
      rw [hl10] at hv11
      injection hv11 with hv12 _ hv13
      subst hv12
      subst hv13
      have HD10 := Lib.hid (HZ.out w10 ao10 22 cp10 _ hs11 hl10 (by decide) (fun g hg => hA10.own.lt g (by rw [← hb11]; exact hg)))
      have K10 := Lib.hid hA10.keep
      clear hrow2 hsrc2 hown10 hgr10 hfr10 hA10 hl10 hs11 hb11
      go_wp2_with fail
      refine HD10.out.mono ?_
      rintro e w12 ⟨rfl, hk12⟩
      have K12 := Lib.hid (K10.out.trans' hk12)
      clear hk12
      by_cases hx0 : xb = 0
      · subst hx0
        have he : er = 0 := by rw [← HER.out]; rfl
        subst he
        have hx1 : ((((0 : UInt8).toNat : Nat) : Int) == 0) = true := by decide
        go_wp2_with fail
        go_ret
        exact ⟨rfl, HKB.out.trans' (K2.out.trans' (K12.out.alloc _))⟩
      · have he : er = 1 := by rw [← HER.out, decide_eq_false hx0]; rfl
        subst he
        have hx1 : (((xb.toNat : Nat) : Int) == 0) = false := by
          rw [Bool.eq_false_iff]
          intro h
          have h2 : xb.toNat = 0 := by simpa using h
          exact hx0 (UInt8.toNat_inj.1 h2)
        go_wp2_with fail
        go_ret
        exact ⟨rfl, HKB.out.trans' (K2.out.trans' (K12.out.alloc _))⟩

set_option linter.unusedVariables false
set_option maxRecDepth 100000 in
theorem lifted (os : Os) (started : os.Started) (H : Type) (enc : TypeId × Value → H) :
    ReturnsInHanded {} Tryz.checked os 4 .any (Rows.wireTurnSpec.pre6 enc Tryz.prog Tryz.f4 Rows.wireTurnRow.domain false) (Rows.wireTurnSpec.post enc Tryz.prog Tryz.f4 false true false false) := by
  refine returnsInHanded_of_change (C := Tryz.checked) own started (by kernel_rfl) Tryz.func4
    (ChangeSpec.witness6 (enc := enc) (C := Tryz.checked) false ⟨#[], #[.agg #[.int .i64 0, .int .i64 0, .int .i64 0, .int .i64 0, .int .i64 0, .bool false], .int .i64 0, .int .u8 0], []⟩ 8 (by kernel_rfl) (by kernel_rfl) (by kernel_rfl) (by kernel_rfl)) ?_
  intro W base args ds gs before hval0 hW hcnd _
  have hval : ∀ (j : Nat) t v, Tryz.f4.params[j]? = some t → args[j]? = some v → Value.okWide Tryz.prog W .any base t v := hval0
  have hW' := hW
  obtain ⟨p, q, hA0, hV, rfl, hfz, hnd⟩ := hW
  have hA : DataW.TrodAll enc Tryz.prog W 0 (fun _ => true) true Tryz.f4.params.toList args.toList ds p := hA0
  rw [Tryz.params4] at hA hval
  obtain ⟨v0, vs0, d0, ds0, p0, q0, hargs, rfl, rfl, h0, r0⟩ := trodAll_cons hA
  obtain ⟨v1, vs1, d1, ds1, p1, q1, rfl, rfl, rfl, h1, r1⟩ := trodAll_cons r0
  obtain ⟨v2, vs2, d2, ds2, p2, q2, rfl, rfl, rfl, h2, r2⟩ := trodAll_cons r1
  obtain ⟨rfl, rfl, rfl⟩ := trodAll_nil r2
  obtain rfl : args = #[v0, v1, v2] := by cases args; simp_all
  obtain ⟨rfl, rfl⟩ := trodVars_none hV
  have k0 := h0
  have lt0 : ∀ x ∈ p0, x.block < W.heap.size := by obtain ⟨m, hm⟩ := k0; exact DataW.trod_lt m _ _ _ hm
  obtain ⟨z0, rfl, w0⟩ := open_arg0 W base (hval 0 23 v0 rfl rfl) h0
  obtain ⟨a1, rfl, rfl, rfl, w1⟩ := open_int Tryz.underlying3 (hval 1 3 v1 rfl rfl) h1
  obtain ⟨a2, rfl, rfl, rfl, w2⟩ := open_int Tryz.underlying5 (hval 2 5 v2 rfl rfl) h2
  clear hA0 hval0
  refine (walk W z0 w0 a1 w1 a2 w2).mono fun e W' ⟨he, hk⟩ => ?_
  subst he
  have bel := Keep.below hk
  exact ⟨_, rfl, _, _, _, [], _, [], hW', trodAll_mk1 (shut_bool Tryz.underlying4 _), (trodAll_cons_mk (Below.trod laidOut (by kernel_rfl) (of_decide_eq_true (by kernel_rfl)) k0 bel lt0) (trodAll_cons_mk (shut_int Tryz.underlying3 w1) (trodAll_cons_mk (shut_int Tryz.underlying5 w2) trodAll_mk0))), rfl, bel.frame _, fun h => by cases h⟩

theorem over : Rows.wireTurnRow.holds Tryz.pinned (OpenSpec.ofChange Rows.wireTurnSpec) :=
  OpenClaim.holds_of_wide 4 Tryz.f4 rfl rfl rfl rfl rfl rfl rfl ⟨rfl, rfl, rfl, rfl, rfl⟩ rfl rfl rfl rfl rfl (by kernel_rfl) Tryz.func4 (by kernel_rfl)
    (of_decide_eq_true (by kernel_rfl)) (by unfold Func.isWrapper; rw [if_neg (of_decide_eq_false (by kernel_rfl))]; exact ⟨rfl, rfl⟩)
    (fun os started H enc _ => lifted os started H enc)

/-- The statement. -/
theorem proved : Rows.WireTurnSaid := over
#print axioms proved
end Go.Proofs.YtlabhbjampkhpaaGreat.wireTurn
