/- SumParts: the law returns true and changes nothing that was there. No conditions. -/
import Derived.Test.YtdipknkajmoldaaRefSum
import Derived.Test.YtdipknkajmoldaaRows
import Derived.WalkKit
import Derived.ProofKit
import Derived.OpenShut
import Derived.ShutString
import Derived.ChangeOld
import Derived.Below
namespace Go.Proofs.Ytdipknkajmoldaa.sumParts
open Go Go.ChangeShapes Go.WideShapes Go.ChangeAt Go.RowKit
open Go.ChangeMaps (open_string shut_string)

theorem own : ownKnob Try.prog.godebug = none := by kernel_rfl
theorem laidOut : laidOutB Try.prog = true := by kernel_rfl

theorem tmod_bounds (c : Int) : -30 < c.tmod 30 ∧ c.tmod 30 < 30 :=
  ⟨by have := Int.lt_tmod_of_pos c (b := 30) (by decide); exact this, Int.tmod_lt_of_pos c (by decide)⟩

set_option maxHeartbeats 1500000 in
theorem walk (w : World) (a0 : Option Addr) (len0 cap0 : Nat) (z0 : List Int) (h0 : IsRow .u8 w a0 len0 cap0 z0) (a1 : Option Addr) (len1 cap1 : Nat) (z1 : List Int) (h1 : IsRow .i64 w a1 len1 cap1 z1) (nn : Int) (hnn : (Lit.int .i64 nn).wf = true) :
    Calls Try.prog 14 #[.slice a0 len0 cap0, .slice a1 len1 cap1, .int .i64 nn] w fun e w' => e = .returned (.bool true) ∧ Keep NoF w w' := by
  have hbn := bounds_i64 hnn
  obtain ⟨l0, hl0, s0⟩ := h0.slb
  have S0 := Lib.hid s0; have E0 := Lib.hid hl0; have H1 := Lib.hid h1
  have hle := h1.le
  unfold maxLen at hle
  have hcap1 : len1 ≤ 9223372036854775807 := by omega
  clear s0 hl0 h0 h1 hnn hle
  by_cases hr : nn < 0 ∨ 20 < nn
  · rcases hr with hr | hr
    · go_enter Try.func14, Try.ntmps14
      go_wp2_with fail
      refine (begun_any w).mono ?_
      rintro e w1 ⟨rfl, hk⟩
      have K1 := Lib.hid hk; clear hk
      go_wp2_with fail
      refine (short_at a0 len0 cap0 l0 100 w1 (S0.out.keep K1.out (fun _ _ f => f)) E0.out (by decide) (by decide)).mono ?_
      rintro e w2 ⟨v, rfl, hO, hk, hf⟩
      have K2 := Lib.hid (K1.out.trans' hk)
      clear hO hk hf
      go_wp2_with fail
      go_ret
      exact ⟨rfl, K2.out⟩
    · have hr' : ¬ nn < 0 := by omega
      go_enter Try.func14, Try.ntmps14
      go_wp2_with fail
      refine (begun_any w).mono ?_
      rintro e w1 ⟨rfl, hk⟩
      have K1 := Lib.hid hk; clear hk
      go_wp2_with fail
      refine (short_at a0 len0 cap0 l0 100 w1 (S0.out.keep K1.out (fun _ _ f => f)) E0.out (by decide) (by decide)).mono ?_
      rintro e w2 ⟨v, rfl, hO, hk, hf⟩
      have K2 := Lib.hid (K1.out.trans' hk)
      clear hO hk hf
      go_wp2_with fail
      go_ret
      exact ⟨rfl, K2.out⟩
  · obtain ⟨m, rfl, hm⟩ : ∃ m : Nat, nn = m ∧ m ≤ 20 := ⟨nn.toNat, by omega, by omega⟩
    clear hr hbn
    have hr1 : ¬ (m : Int) < 0 := by omega
    have hr2 : ¬ (20 : Int) < m := by omega
    go_enter Try.func14, Try.ntmps14
    go_wp2_with fail
    refine (begun_any w).mono ?_
    rintro e w1 ⟨rfl, hk⟩
    have K1 := Lib.hid hk; clear hk
    go_wp2_with fail
    refine (short_at a0 len0 cap0 l0 100 w1 (S0.out.keep K1.out (fun _ _ f => f)) E0.out (by decide) (by decide)).mono ?_
    rintro e w2 ⟨v, rfl, hO, hk, hf⟩
    have K2 := Lib.hid (K1.out.trans' hk)
    have hp100 : (l0.take (Int.toNat 100)).length ≤ 100 := by rw [List.length_take]; exact Nat.min_le_left _ _
    generalize l0.take (Int.toNat 100) = p at hO hp100
    obtain ⟨ao1, cp1, rfl, sp, bp⟩ := hO.slb
    have SP2 := Lib.hid sp
    clear hk hO hf sp bp
    go_wp2_with (at_make; refine wpList_mk 25 5 (.int .u8 0) 1 Try.underlying25 infoU8 rfl rfl rfl m rfl rfl (by omega) (by unfold maxLen; omega) ?_)
    intro w3 hown hgr
    have k23 : Keep NoF w2 w3 := (Keep.refl NoF w2).grown hgr (fun k _ e => by cases e)
    have hsrc := OwnB.src (P := Try.prog) (SP2.out.keep k23 (fun _ _ f => f)) rfl (t := 25) Try.underlying25
    have K23 := Lib.hid k23
    clear k23 hgr
    go_wp2_with (at_builtin; refine wpList_app 25 25 5 (.int .u8 0) 1 1 Try.underlying25 infoU8 rfl (by decide) (by decide) rfl rfl rfl rfl hown hsrc (by omega) ?_)
    intro ao2 cp2 w4 hown4 hgr4 hfr4
    have O4 := OwnB.of_app hown4 (l1 := List.replicate m 0) (by simp) rfl (by rw [bvs_replicate]; rfl) rfl
    have K4 := Lib.hid ((K2.out.trans' K23.out).trans ((Keep.refl (fun k => k = w2.heap.size) w3).grown hgr4 (fun k _ e => by simpa [Value.ownBlock] using e.symm)) (fun _ _ f => f) (fun i hi f => by have := K2.out.size; subst f; omega) : Keep NoF w w4)
    have hll : (List.replicate m 0 ++ p).length = m + p.length := by simp
    generalize List.replicate m 0 ++ p = l at O4 hll
    obtain ⟨ao4', cp4', e4, s4, _⟩ := O4.slb
    injection e4 with e4 e5 e6
    subst e4 e6
    have S4 := Lib.hid s4
    clear hown hsrc hown4 hgr4 hfr4 O4 s4 e5 K23 SP2 K1
    have hcp : l.length ≤ cp2 := S4.out.1
    have hmx := S4.out.2.1
    unfold maxLen at hmx
    obtain ⟨n, hn⟩ : ∃ n, n = l.length := ⟨_, rfl⟩
    have hn120 : n ≤ 120 := by omega
    rw [← hn] at hll hcp
    rw [← hll]
    have HN := Lib.hid hn; have HLL := Lib.hid hll
    clear hn hll hp100 hm
    go_wp2_with fail
    refine (of_at none 0 0 [] w4 ⟨by simp, by simp, by simp⟩ rfl).mono ?_
    rintro e w' ⟨rfl, rfl⟩
    have hc0 : crcOf [] = 0 := by decide +kernel
    rw [hc0]
    go_wp2_with fail
    go_loop [8, 9, 10] (fun sv av i => ∃ k at_ : Nat, k ≤ 10 ∧ k ≤ len1 ∧ at_ ≤ n ∧ i = .int .i64 k ∧ av = .int .i64 at_ ∧ sv = .int .u32 ((crcOf (l.take at_) : Nat) : Int)) (fun _ _ i => 10 - (intOf i).toNat)
    case atStart => exact ⟨0, 0, by omega, by omega, by omega, rfl, rfl, by rw [List.take_zero, hc0]; rfl⟩
    case round =>
      obtain ⟨k, at_, hk, hk1, hat, rfl, rfl, rfl⟩ := hrel
      have hclt := crcOf_lt (l.take at_)
      by_cases hlt : k < len1 ∧ k < 10
      · obtain ⟨g1, off1, rfl, hcell, hcw⟩ := H1.out.cellAt k hlt.1
        have hcell := K4.out.cell' hcell (fun f => f)
        generalize z1.getD k 0 = c at hcell hcw
        have hcb := bounds_i64 hcw
        obtain ⟨ht1, ht2⟩ := tmod_bounds c
        obtain ⟨X, hX⟩ : ∃ X : Nat, (c.tmod 30 + 30) % 30 = (X : Int) := ⟨((c.tmod 30 + 30) % 30).toNat, by omega⟩
        obtain ⟨r, hr⟩ : ∃ r : Nat, (n : Int) - at_ = (r : Int) := ⟨n - at_, by omega⟩
        have hl1 := hlt.1
        have hl2 := hlt.2
        have hXb : X < 30 := by omega
        have hnr : at_ + r ≤ n := by omega
        have Hlt : Hid (at_ ≤ n) := hat
        clear hlt hcw HLL
        have hone : ∀ y : Nat, y ≤ r → crcOn (crcOf (l.take at_)) ((l.drop at_).take y) = crcOf (l.take (at_ + y)) := fun y _ => by rw [crcOn_of, take_sub]
        have Hone := Lib.hid hone
        clear hone
        by_cases hXr : X < r
        · have hXr' : (X : Int) < r := by omega
          have hsub := S4.out.sub at_ X (by rw [← HN.out]; omega)
          have hsl := sub_length l at_ X (by rw [← HN.out]; omega)
          have Hsl := Lib.hid hsl
          clear hsl
          by_cases hcpa : cp2 = at_
          · omega
          · rw [if_neg hcpa] at hsub
            have Hsub := Lib.hid hsub
            clear hsub
            go_wp2_with fail
            refine (on_at _ _ _ _ _ w4 hclt Hsub.out Hsl.out).mono ?_
            rintro e w' ⟨rfl, rfl⟩
            rw [Hone.out X (by omega)]
            go_wp2_with fail
            go_round
            case rel => exact ⟨k + 1, at_ + X, by omega, by omega, by omega, by go_num, by go_num, rfl⟩
            case measure => simp [intOf]; omega
        · have hXr' : ¬ (X : Int) < r := by omega
          have hsub := S4.out.sub at_ r (by rw [← HN.out]; omega)
          have hsl := sub_length l at_ r (by rw [← HN.out]; omega)
          have Hsl := Lib.hid hsl
          clear hsl
          by_cases hcpa : cp2 = at_
          · rw [if_pos hcpa] at hsub
            obtain rfl : r = 0 := by omega
            subst hcpa
            rw [Nat.sub_self] at hsub
            have Hsub := Lib.hid hsub
            clear hsub
            go_wp2_with fail
            refine (on_at _ _ _ _ _ w4 hclt Hsub.out Hsl.out).mono ?_
            rintro e w' ⟨rfl, rfl⟩
            rw [Hone.out 0 (by omega)]
            go_wp2_with fail
            go_round
            case rel => exact ⟨k + 1, cp2 + 0, by omega, by omega, by omega, by go_num, by go_num, rfl⟩
            case measure => simp [intOf]; omega
          · rw [if_neg hcpa] at hsub
            have Hsub := Lib.hid hsub
            clear hsub
            go_wp2_with fail
            refine (on_at _ _ _ _ _ w4 hclt Hsub.out Hsl.out).mono ?_
            rintro e w' ⟨rfl, rfl⟩
            rw [Hone.out r (by omega)]
            go_wp2_with fail
            go_round
            case rel => exact ⟨k + 1, at_ + r, by omega, by omega, by omega, by go_num, by go_num, rfl⟩
            case measure => simp [intOf]; omega
      · obtain ⟨r, hr⟩ : ∃ r : Nat, n = at_ + r := ⟨n - at_, by omega⟩
        have hall : crcOn (crcOf (l.take at_)) ((l.drop at_).take r) = crcOf l := by
          rw [crcOn_of, take_sub, ← hr, HN.out, List.take_length]
        have Hall := Lib.hid hall
        clear hall
        have hsub := S4.out.sub at_ r (by rw [← HN.out]; omega)
        have hsl := sub_length l at_ r (by rw [← HN.out]; omega)
        have Hsl := Lib.hid hsl
        have Hlt : Hid (at_ ≤ n) := hat
        clear hsl HLL
        have hnil : SlB w4 none 0 [] := ⟨by simp, by simp, by simp⟩
        have Hnil := Lib.hid hnil
        clear hnil
        have hsz : n - at_ = r := by omega
        have hat2 : (at_ : Int) ≤ n := by omega
        have Hr := Lib.hid hr
        clear hr
        have hdec : (decide ((k : Int) < len1) && decide ((k : Int) < 10)) = false := by
          rw [Bool.and_eq_false_iff]; simp; omega
        by_cases hd1 : (k : Int) < len1
        · have hd2 : ¬ (k : Int) < 10 := by omega
          clear hlt hdec
          by_cases hcpa : cp2 = at_
          · rw [if_pos hcpa] at hsub
            have hr0 : r = 0 := by omega
            subst hr0
            subst hcpa
            rw [Nat.sub_self] at hsub
            have Hsub := Lib.hid hsub
            clear hsub
            go_wp2_with fail
            refine (on_at _ _ _ _ _ w4 hclt Hsub.out Hsl.out).mono ?_
            rintro e w' ⟨rfl, rfl⟩
            rw [Hall.out]
            go_wp2_with fail
            refine (refsum_at ao2 n cp2 l w4 S4.out HN.out.symm (by omega)).mono ?_
            rintro e w5 ⟨rfl, hk⟩
            have K5 := Lib.hid (K4.out.trans' hk); clear hk
            go_wp2_with fail
            refine (of_at none 0 0 [] w5 ⟨by simp, by simp, by simp⟩ rfl).mono ?_
            rintro e w' ⟨rfl, rfl⟩
            rw [hc0]
            go_wp2_with fail
            go_ret
            exact ⟨rfl, K5.out⟩
          · rw [if_neg hcpa] at hsub
            have Hsub := Lib.hid hsub
            clear hsub
            go_wp2_with fail
            refine (on_at _ _ _ _ _ w4 hclt Hsub.out Hsl.out).mono ?_
            rintro e w' ⟨rfl, rfl⟩
            rw [Hall.out]
            go_wp2_with fail
            refine (refsum_at ao2 n cp2 l w4 S4.out HN.out.symm (by omega)).mono ?_
            rintro e w5 ⟨rfl, hk⟩
            have K5 := Lib.hid (K4.out.trans' hk); clear hk
            go_wp2_with fail
            refine (of_at none 0 0 [] w5 ⟨by simp, by simp, by simp⟩ rfl).mono ?_
            rintro e w' ⟨rfl, rfl⟩
            rw [hc0]
            go_wp2_with fail
            go_ret
            exact ⟨rfl, K5.out⟩
        · clear hlt hdec
          by_cases hcpa : cp2 = at_
          · rw [if_pos hcpa] at hsub
            have hr0 : r = 0 := by omega
            subst hr0
            subst hcpa
            rw [Nat.sub_self] at hsub
            have Hsub := Lib.hid hsub
            clear hsub
            go_wp2_with fail
            refine (on_at _ _ _ _ _ w4 hclt Hsub.out Hsl.out).mono ?_
            rintro e w' ⟨rfl, rfl⟩
            rw [Hall.out]
            go_wp2_with fail
            refine (refsum_at ao2 n cp2 l w4 S4.out HN.out.symm (by omega)).mono ?_
            rintro e w5 ⟨rfl, hk⟩
            have K5 := Lib.hid (K4.out.trans' hk); clear hk
            go_wp2_with fail
            refine (of_at none 0 0 [] w5 ⟨by simp, by simp, by simp⟩ rfl).mono ?_
            rintro e w' ⟨rfl, rfl⟩
            rw [hc0]
            go_wp2_with fail
            go_ret
            exact ⟨rfl, K5.out⟩
          · rw [if_neg hcpa] at hsub
            have Hsub := Lib.hid hsub
            clear hsub
            go_wp2_with fail
            refine (on_at _ _ _ _ _ w4 hclt Hsub.out Hsl.out).mono ?_
            rintro e w' ⟨rfl, rfl⟩
            rw [Hall.out]
            go_wp2_with fail
            refine (refsum_at ao2 n cp2 l w4 S4.out HN.out.symm (by omega)).mono ?_
            rintro e w5 ⟨rfl, hk⟩
            have K5 := Lib.hid (K4.out.trans' hk); clear hk
            go_wp2_with fail
            refine (of_at none 0 0 [] w5 ⟨by simp, by simp, by simp⟩ rfl).mono ?_
            rintro e w' ⟨rfl, rfl⟩
            rw [hc0]
            go_wp2_with fail
            go_ret
            exact ⟨rfl, K5.out⟩

set_option linter.unusedVariables false
set_option maxRecDepth 100000 in
theorem lifted (os : Os) (started : os.Started) (H : Type) (enc : TypeId × Value → H) :
    ReturnsInHanded {} Try.checked os 14 .any (Rows.sumPartsSpec.pre6 enc Try.prog Try.f14 Rows.sumPartsRow.domain false) (Rows.sumPartsSpec.post enc Try.prog Try.f14 false true false false) := by
  refine returnsInHanded_of_change (C := Try.checked) own started (by kernel_rfl) Try.func14
    (ChangeSpec.witness6 (enc := enc) (C := Try.checked) false ⟨#[], #[.slice none 0 0, .slice none 0 0, .int .i64 0], []⟩ 8 (by kernel_rfl) (by kernel_rfl) (by kernel_rfl) (by kernel_rfl)) ?_
  intro W base args ds gs before hval0 hW hcnd _
  have hval : ∀ (j : Nat) t v, Try.f14.params[j]? = some t → args[j]? = some v → Value.okWide Try.prog W .any base t v := hval0
  have hW' := hW
  obtain ⟨p, q, hA0, hV, rfl, hfz, hnd⟩ := hW
  have hA : DataW.TrodAll enc Try.prog W 0 (fun _ => true) true Try.f14.params.toList args.toList ds p := hA0
  rw [Try.params14] at hA hval
  obtain ⟨v0, vs0, d0, ds0, p0, q0, hargs, rfl, rfl, h0, r0⟩ := trodAll_cons hA
  obtain ⟨v1, vs1, d1, ds1, p1, q1, rfl, rfl, rfl, h1, r1⟩ := trodAll_cons r0
  obtain ⟨v2, vs2, d2, ds2, p2, q2, rfl, rfl, rfl, h2, r2⟩ := trodAll_cons r1
  obtain ⟨rfl, rfl, rfl⟩ := trodAll_nil r2
  obtain rfl : args = #[v0, v1, v2] := by cases args; simp_all
  obtain ⟨rfl, rfl⟩ := trodVars_none hV
  obtain ⟨a0, len0, cap0, rfl⟩ := okWide_slice Try.underlying25 (hval 0 25 v0 rfl rfl)
  have k0 := h0
  have lt0 : ∀ x ∈ p0, x.block < W.heap.size := by obtain ⟨m, hm⟩ := k0; exact DataW.trod_lt m _ _ _ hm
  obtain ⟨z0, w0⟩ : ∃ zs, IsRow .u8 W a0 len0 cap0 zs := by
    obtain ⟨fuel, hf⟩ := h0
    rcases open_ints Try.underlying25 Try.underlying5 (by kernel_rfl) hf with ⟨hcs, _⟩ | ⟨x, l, c, zs, hcs, _, hl, hm, hz, _, hcell, hwz⟩
    · simp [Value.cells] at hcs
      obtain ⟨rfl, rfl, rfl⟩ := hcs
      exact ⟨[], .inl ⟨rfl, rfl, rfl, rfl⟩⟩
    · simp [Value.cells] at hcs
      obtain ⟨rfl, rfl, rfl⟩ := hcs
      exact ⟨zs, .inr ⟨_, rfl, hl, hm, by simpa using hz, hcell, hwz⟩⟩
  obtain ⟨a1, len1, cap1, rfl⟩ := okWide_slice Try.underlying41 (hval 1 41 v1 rfl rfl)
  have k1 := h1
  have lt1 : ∀ x ∈ p1, x.block < W.heap.size := by obtain ⟨m, hm⟩ := k1; exact DataW.trod_lt m _ _ _ hm
  obtain ⟨z1, w1⟩ : ∃ zs, IsRow .i64 W a1 len1 cap1 zs := by
    obtain ⟨fuel, hf⟩ := h1
    rcases open_ints Try.underlying41 Try.underlying3 (by kernel_rfl) hf with ⟨hcs, _⟩ | ⟨x, l, c, zs, hcs, _, hl, hm, hz, _, hcell, hwz⟩
    · simp [Value.cells] at hcs
      obtain ⟨rfl, rfl, rfl⟩ := hcs
      exact ⟨[], .inl ⟨rfl, rfl, rfl, rfl⟩⟩
    · simp [Value.cells] at hcs
      obtain ⟨rfl, rfl, rfl⟩ := hcs
      exact ⟨zs, .inr ⟨_, rfl, hl, hm, by simpa using hz, hcell, hwz⟩⟩
  obtain ⟨a2, rfl, rfl, rfl, w2⟩ := open_int Try.underlying3 (hval 2 3 v2 rfl rfl) h2
  clear hA0 hval0
  refine (walk W a0 len0 cap0 z0 w0 a1 len1 cap1 z1 w1 a2 w2).mono fun e W' ⟨he, hk⟩ => ?_
  subst he
  have bel := Keep.below hk
  exact ⟨_, rfl, _, _, _, [], _, [], hW', trodAll_mk1 (shut_bool Try.underlying4 _), (trodAll_cons_mk (Below.trod laidOut (by kernel_rfl) (of_decide_eq_true (by kernel_rfl)) k0 bel lt0) (trodAll_cons_mk (Below.trod laidOut (by kernel_rfl) (of_decide_eq_true (by kernel_rfl)) k1 bel lt1) (trodAll_cons_mk (shut_int Try.underlying3 w2) trodAll_mk0))), rfl, bel.frame _, fun h => by cases h⟩

theorem over : Rows.sumPartsRow.holds Try.pinned (OpenSpec.ofChange Rows.sumPartsSpec) :=
  OpenClaim.holds_of_wide 14 Try.f14 rfl rfl rfl rfl rfl rfl rfl ⟨rfl, rfl, rfl, rfl, rfl⟩ rfl rfl rfl rfl rfl (by kernel_rfl) Try.func14 (by kernel_rfl)
    (of_decide_eq_true (by kernel_rfl)) (by unfold Func.isWrapper; rw [if_neg (of_decide_eq_false (by kernel_rfl))]; exact ⟨rfl, rfl⟩)
    (fun os started H enc _ => lifted os started H enc)

/-- The statement. -/
theorem proved : Rows.SumPartsSaid := over
#print axioms proved
end Go.Proofs.Ytdipknkajmoldaa.sumParts
