/- TimerLate: the law returns true and changes nothing that was there. No conditions. -/
import Derived.Test.YtidpfkehmokdfaaBegun6
import Derived.Test.YtidpfkehmokdfaaTim2S
import Derived.Test.YtidpfkehmokdfaaRows
import Derived.WalkKit
import Derived.ProofKit
import Derived.OpenShut
import Derived.ShutString
import Derived.ChangeOld
import Derived.Below
namespace Go.Proofs.Ytidpfkehmokdfaa.timerLate
open Go Go.ChangeShapes Go.WideShapes Go.ChangeAt Go.RowKit
open Go.ChangeMaps (open_string shut_string)

theorem own : ownKnob Try.prog.godebug = none := by kernel_rfl
theorem laidOut : laidOutB Try.prog = true := by kernel_rfl

open Go.Proofs Go.RowKit Go.Maps Go.Sort Go.Shelf
abbrev loud : List UInt8 := [108, 111, 117, 100]
abbrev mute : List UInt8 := [109, 117, 116, 101]
theorem ne_lm : loud ≠ mute := by decide
theorem srt2 : srtS [loud, mute] = [loud, mute] := by
  unfold srtS
  rw [show once [loud, mute] = [loud, mute] from by decide]
  exact List.mergeSort_of_pairwise (by decide)
def ages (k : Nat) : List UInt8 → Int := fun z => if z = loud then 0 else k
theorem late_one (k : Nat) : lateS 1 [loud, mute] (ages k) = [loud, mute] := by
  unfold lateS
  rw [srt2, List.filter_cons_of_pos (by simp [ages]), List.filter_cons_of_pos (by simp [ages, ne_lm.symm]; omega)]
  rfl
theorem late_none (most : Int) (k : Nat) (h : 1 < most) (hk : (k : Int) + 1 < most) : lateS most [loud, mute] (ages k) = [] := by
  unfold lateS
  rw [srt2, List.filter_cons_of_neg (by simp [ages]; omega), List.filter_cons_of_neg (by simp [ages, ne_lm.symm]; omega)]
  rfl
theorem late_mute (most : Int) (k : Nat) (h : 1 < most) (hk : most ≤ (k : Int) + 1) : lateS most [loud, mute] (ages k) = [mute] := by
  unfold lateS
  rw [srt2, List.filter_cons_of_neg (by simp [ages]; omega), List.filter_cons_of_pos (by simp [ages, ne_lm.symm]; omega)]
  rfl
set_option maxHeartbeats 8000000 in
set_option maxRecDepth 4000 in
theorem walk (w : World) (most : Int) (hm0 : (Lit.int .i64 most).wf = true) (t0 : Int) (ht0 : (Lit.int .i64 t0).wf = true) :
    Calls Try.prog 5 #[.int .i64 most, .int .i64 t0] w fun e w' => e = .returned (.bool true) ∧ Keep NoF w w' := by
  have hb := bounds_i64 hm0
  have hb2 := bounds_i64 ht0
  clear hm0 ht0
  go_enter Try.func5, Try.ntmps5
  go_wp2_with fail
  refine (begun6_any w).mono ?_
  rintro e w1 ⟨rfl, hk⟩
  have K1 := Lib.hid hk
  clear hk
  by_cases hok : 1 ≤ most ∧ most ≤ 20 ∧ 0 ≤ t0 ∧ t0 ≤ 30
  · obtain ⟨h1, h2, h3, h4⟩ := hok
    have d1 : decide (most < 1) = false := by simp; omega
    have d2 : decide (20 < most) = false := by simp; omega
    have d3 : decide (t0 < 0) = false := by simp; omega
    have d4 : decide (30 < t0) = false := by simp; omega
    obtain ⟨n, rfl⟩ : ∃ n : Nat, t0 = n := ⟨t0.toNat, by omega⟩
    go_wp2_with fail
    refine (newTimS_any most w1).mono ?_
    rintro e w2 ⟨p, m, rfl, hT, hk, hp, hm⟩
    have HT2 := Lib.hid hT; have K2 := Lib.hid (K1.out.trans' hk)
    have hs1 := K1.out.size
    have hwm : w.heap.size ≤ m := by omega
    clear hT hk hp hm hs1
    go_wp2_with fail
    refine (heardS_any p m 0 most [] _ loud (by decide) w2 HT2.out (by decide)).mono ?_
    rintro e w3 ⟨rfl, hT, hk⟩
    have HT3 := Lib.hid hT
    have K3 := Lib.hid (K2.out.trans hk (fun _ _ f => f) (fun j hj f => by omega))
    clear hT hk
    go_wp2_with fail
    refine (heardS_any p m 1 most [loud] _ mute (by decide) w3 HT3.out (by decide)).mono ?_
    rintro e w4 ⟨rfl, hT, hk⟩
    have HT4 := Lib.hid (hT.congr (ks' := [loud, mute]) (f' := ages 0) (by intro x; simp [or_comm]) (fun x hx => by simp [ages]))
    have K4 := Lib.hid (K3.out.trans hk (fun _ _ f => f) (fun j hj f => by omega))
    clear hT hk
    go_wp2_with fail
    go_loopw [7, 8] (fun tv iv wr => ∃ k : Nat, k ≤ n ∧ iv = .int .i64 ((k : Int) + 1) ∧ tv = .int .i64 (max 0 ((k : Int) - most + 1)) ∧ TimS wr p m (2 + 3 * k) most [loud, mute] (ages k) ∧ Keep NoF w wr) (fun _ iv _ => n + 1 - (intOf iv).toNat)
    case atStart => exact ⟨0, Nat.zero_le _, rfl, by rw [show max 0 (((0 : Nat) : Int) - most + 1) = 0 by omega], HT4.out, K4.out⟩
    case round =>
      obtain ⟨k, hk, rfl, rfl, hT, hkw⟩ := hrel
      have HT := Lib.hid hT; have KW := Lib.hid hkw
      clear hT hkw
      by_cases hlt : k < n
      · have hlt2 : (k : Int) + 1 ≤ n := by omega
        have htick := tickS_any p m (2 + 3 * k) most [loud, mute] (ages k) wr HT.out (by rw [srt2]; simp; omega)
        have HTICK := Lib.hid htick
        clear htick
        go_wp2_with fail
        refine HTICK.out.mono ?_
        rintro e w5 ⟨v, rfl, hrow, hfr, hT, hk5⟩
        rw [srt2] at hT
        have HT5 := Lib.hid hT
        have K5 := Lib.hid (KW.out.trans hk5 (fun _ _ f => f) (fun j hj f => by omega))
        have hheard := fun W hW => heardS_any p m (2 + 3 * k + 2) most [loud, mute] (fun z => ages k z + 1) loud (by decide) W hW (by omega)
        have HHEARD := Lib.hid hheard
        clear hT hk5 HTICK hheard
        by_cases hm1 : most = 1
        · subst hm1
          rw [late_one] at hrow
          obtain ⟨a5, c5, hv5⟩ := row_slice hrow
          simp only [List.length_cons, List.length_nil, Nat.zero_add, Nat.reduceAdd] at hv5
          subst hv5
          obtain ⟨g5, o5, he5, hc5⟩ := (row_slG (enc := encStr) (l := [loud, mute]) rfl hrow).2.2 1 (by decide)
          subst he5
          clear hrow hfr
          have hge : (1 : Int) ≤ (k : Int) + 1 := by omega
          go_wp2_with fail
          refine (HHEARD.out w5 HT5.out).mono ?_
          rintro e w6 ⟨rfl, hT, hk6⟩
          have HT6 := Lib.hid (hT.congr (ks' := [loud, mute]) (f' := ages (k + 1)) (by intro x; simp) (fun x hx => by unfold ages; by_cases e : x = loud <;> simp [e]))
          have K6 := Lib.hid (K5.out.trans hk6 (fun _ _ f => f) (fun j hj f => by omega))
          clear hT hk6 hc5
          go_wp2_with fail
          go_roundw
          case rel => exact ⟨k + 1, by omega, by go_num, by rw [show max 0 (((k + 1 : Nat) : Int) - 1 + 1) = (k : Int) + 1 by omega], HT6.out.mono (by omega), K6.out⟩
          case measure => simp [intOf]; omega
        · have hm2 : 1 < most := by omega
          by_cases hge : most ≤ (k : Int) + 1
          · rw [late_mute most k hm2 hge] at hrow
            obtain ⟨a5, c5, hv5⟩ := row_slice hrow
            simp only [List.length_cons, List.length_nil, Nat.zero_add] at hv5
            subst hv5
            obtain ⟨g5, o5, he5, hc5⟩ := (row_slG (enc := encStr) (l := [mute]) rfl hrow).2.2 0 (by decide)
            subst he5
            rw [Nat.add_zero] at hc5
            have hmn : min 1 (max 0 ((k : Int) + 1 - most + 1)) = 1 := by omega
            clear hrow hfr
            go_wp2_with fail
            refine (HHEARD.out w5 HT5.out).mono ?_
            rintro e w6 ⟨rfl, hT, hk6⟩
            have HT6 := Lib.hid (hT.congr (ks' := [loud, mute]) (f' := ages (k + 1)) (by intro x; simp) (fun x hx => by unfold ages; by_cases e : x = loud <;> simp [e]))
            have K6 := Lib.hid (K5.out.trans hk6 (fun _ _ f => f) (fun j hj f => by omega))
            clear hT hk6 hc5
            go_wp2_with fail
            go_roundw
            case rel => exact ⟨k + 1, by omega, by go_num, by rw [show max 0 ((k : Int) - most + 1) + 1 = max 0 (((k + 1 : Nat) : Int) - most + 1) by omega], HT6.out.mono (by omega), K6.out⟩
            case measure => simp [intOf]; omega
          · rw [late_none most k hm2 (by omega)] at hrow
            obtain ⟨a5, c5, hv5⟩ := row_slice hrow
            simp only [List.length_nil] at hv5
            subst hv5
            have hmn : min 1 (max 0 ((k : Int) + 1 - most + 1)) = 0 := by omega
            clear hrow hfr
            go_wp2_with fail
            refine (HHEARD.out w5 HT5.out).mono ?_
            rintro e w6 ⟨rfl, hT, hk6⟩
            have HT6 := Lib.hid (hT.congr (ks' := [loud, mute]) (f' := ages (k + 1)) (by intro x; simp) (fun x hx => by unfold ages; by_cases e : x = loud <;> simp [e]))
            have K6 := Lib.hid (K5.out.trans hk6 (fun _ _ f => f) (fun j hj f => by omega))
            clear hT hk6
            go_wp2_with fail
            go_roundw
            case rel => exact ⟨k + 1, by omega, by go_num, by rw [show max 0 ((k : Int) - most + 1) = max 0 (((k + 1 : Nat) : Int) - most + 1) by omega], HT6.out.mono (by omega), K6.out⟩
            case measure => simp [intOf]; omega
      · have hlt2 : ¬ (k : Int) + 1 ≤ n := by omega
        obtain rfl : k = n := by omega
        have ha1 := ageS_any p m (2 + 3 * k) most [loud, mute] (ages k) mute (by decide) wr HT.out
        have ha2 := ageS_any p m (2 + 3 * k) most [loud, mute] (ages k) loud (by decide) wr HT.out
        rw [show ageS [loud, mute] (ages k) mute = k from by simp [ageS, ages, ne_lm.symm]] at ha1
        rw [show ageS [loud, mute] (ages k) loud = 0 from by simp [ageS, ages]] at ha2
        have H1 := Lib.hid ha1; have H2 := Lib.hid ha2
        clear ha1 ha2
        go_wp2_with fail
        refine H1.out.mono ?_
        rintro e w' ⟨rfl, hw⟩
        obtain rfl : wr = w' := hw.symm
        go_wp2_with fail
        refine H2.out.mono ?_
        rintro e w' ⟨rfl, hw⟩
        obtain rfl : wr = w' := hw.symm
        go_wp2_with fail
        go_ret
        exact ⟨rfl, KW.out⟩
  · by_cases h1 : most < 1
    · have d1 : decide (most < 1) = true := by simp [h1]
      go_wp2_with fail
      go_ret
      exact ⟨rfl, K1.out⟩
    · have d1 : decide (most < 1) = false := by simp [h1]
      by_cases h2 : 20 < most
      · have d2 : decide (20 < most) = true := by simp [h2]
        go_wp2_with fail
        go_ret
        exact ⟨rfl, K1.out⟩
      · have d2 : decide (20 < most) = false := by simp [h2]
        by_cases h3 : t0 < 0
        · have d3 : decide (t0 < 0) = true := by simp [h3]
          go_wp2_with fail
          go_ret
          exact ⟨rfl, K1.out⟩
        · have d3 : decide (t0 < 0) = false := by simp [h3]
          have d4 : decide (30 < t0) = true := by simp; omega
          go_wp2_with fail
          go_ret
          exact ⟨rfl, K1.out⟩

set_option linter.unusedVariables false
set_option maxRecDepth 100000 in
theorem lifted (os : Os) (started : os.Started) (H : Type) (enc : TypeId × Value → H) :
    ReturnsInHanded {} Try.checked os 5 .any (Rows.timerLateSpec.pre6 enc Try.prog Try.f5 Rows.timerLateRow.domain false) (Rows.timerLateSpec.post enc Try.prog Try.f5 false true false false) := by
  refine returnsInHanded_of_change (C := Try.checked) own started (by kernel_rfl) Try.func5
    (ChangeSpec.witness6 (enc := enc) (C := Try.checked) false ⟨#[], #[.int .i64 0, .int .i64 0], []⟩ 8 (by kernel_rfl) (by kernel_rfl) (by kernel_rfl) (by kernel_rfl)) ?_
  intro W base args ds gs before hval0 hW hcnd _
  have hval : ∀ (j : Nat) t v, Try.f5.params[j]? = some t → args[j]? = some v → Value.okWide Try.prog W .any base t v := hval0
  have hW' := hW
  obtain ⟨p, q, hA0, hV, rfl, hfz, hnd⟩ := hW
  have hA : DataW.TrodAll enc Try.prog W 0 (fun _ => true) true Try.f5.params.toList args.toList ds p := hA0
  rw [Try.params5] at hA hval
  obtain ⟨v0, vs0, d0, ds0, p0, q0, hargs, rfl, rfl, h0, r0⟩ := trodAll_cons hA
  obtain ⟨v1, vs1, d1, ds1, p1, q1, rfl, rfl, rfl, h1, r1⟩ := trodAll_cons r0
  obtain ⟨rfl, rfl, rfl⟩ := trodAll_nil r1
  obtain rfl : args = #[v0, v1] := by cases args; simp_all
  obtain ⟨rfl, rfl⟩ := trodVars_none hV
  obtain ⟨a0, rfl, rfl, rfl, w0⟩ := open_int Try.underlying3 (hval 0 3 v0 rfl rfl) h0
  obtain ⟨a1, rfl, rfl, rfl, w1⟩ := open_int Try.underlying3 (hval 1 3 v1 rfl rfl) h1
  clear hA0 hval0
  refine (walk W a0 w0 a1 w1).mono fun e W' ⟨he, hk⟩ => ?_
  subst he
  have bel := Keep.below hk
  exact ⟨_, rfl, _, _, _, [], _, [], hW', trodAll_mk1 (shut_bool Try.underlying4 _), (trodAll_cons_mk (shut_int Try.underlying3 w0) (trodAll_cons_mk (shut_int Try.underlying3 w1) trodAll_mk0)), rfl, bel.frame _, fun h => by cases h⟩

theorem over : Rows.timerLateRow.holds Try.pinned (OpenSpec.ofChange Rows.timerLateSpec) :=
  OpenClaim.holds_of_wide 5 Try.f5 rfl rfl rfl rfl rfl rfl rfl ⟨rfl, rfl, rfl, rfl, rfl⟩ rfl rfl rfl rfl rfl (by kernel_rfl) Try.func5 (by kernel_rfl)
    (of_decide_eq_true (by kernel_rfl)) (by unfold Func.isWrapper; rw [if_neg (of_decide_eq_false (by kernel_rfl))]; exact ⟨rfl, rfl⟩)
    (fun os started H enc _ => lifted os started H enc)

/-- The statement. -/
theorem proved : Rows.TimerLateSaid := over
#print axioms proved
end Go.Proofs.Ytidpfkehmokdfaa.timerLate
