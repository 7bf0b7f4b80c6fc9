/- TimerGone: the law returns true and changes nothing that was there. No conditions. -/
import Derived.Test.YtidpfkehmokdfaaBegun6
import Derived.Test.YtidpfkehmokdfaaTim2I
import Derived.Test.YtidpfkehmokdfaaRows
import Derived.WalkKit
import Derived.ProofKit
import Derived.OpenShut
import Derived.ShutString
import Derived.ChangeOld
import Derived.Below
namespace Go.Proofs.Ytidpfkehmokdfaa.timerGone
open Go Go.ChangeShapes Go.WideShapes Go.ChangeAt Go.RowKit
open Go.ChangeMaps (open_string shut_string)

theorem own : ownKnob Try.prog.godebug = none := by kernel_rfl
theorem laidOut : laidOutB Try.prog = true := by kernel_rfl

open Go.Proofs Go.RowKit Go.Maps Go.Sort Go.Shelf
theorem srt1 : srtA [1] = [1] := by unfold srtA; simp [once]
theorem srt0 : srtA [] = [] := by unfold srtA; simp [once]
set_option maxHeartbeats 8000000 in
set_option maxRecDepth 4000 in
theorem walk (w : World) (n0 : Int) (hn0 : (Lit.int .i64 n0).wf = true) :
    Calls Try.prog 7 #[.int .i64 n0] w fun e w' => e = .returned (.bool true) ∧ Keep NoF w w' := by
  have hb := bounds_i64 hn0
  clear hn0
  go_enter Try.func7, Try.ntmps7
  go_wp2_with fail
  refine (begun6_any w).mono ?_
  rintro e w1 ⟨rfl, hk⟩
  have K1 := Lib.hid hk
  clear hk
  by_cases h1 : n0 < 0
  · have h1d : decide (n0 < 0) = true := by simp [h1]
    go_wp2_with fail
    go_ret
    exact ⟨rfl, K1.out⟩
  · have h1d : decide (n0 < 0) = false := by simp [h1]
    by_cases h2 : 20 < n0
    · have h2d : decide (20 < n0) = true := by simp [h2]
      go_wp2_with fail
      go_ret
      exact ⟨rfl, K1.out⟩
    · have h2d : decide (20 < n0) = false := by simp [h2]
      obtain ⟨n, rfl⟩ : ∃ n : Nat, n0 = n := ⟨n0.toNat, by omega⟩
      go_wp2_with fail
      refine (newTimA_any 3 w1).mono ?_
      rintro e w2 ⟨p, m, rfl, hT, hk, hp, hm⟩
      have HT2 := Lib.hid hT; have K2 := Lib.hid (K1.out.trans' hk)
      have hs1 := K1.out.size
      have hwm : w.heap.size ≤ m := by omega
      clear hT hk hp hm hs1
      go_wp2_with fail
      refine (heardA_any p m 0 3 [] _ 1 (by decide) w2 HT2.out (by decide)).mono ?_
      rintro e w3 ⟨rfl, hT, hk⟩
      have HT3 := Lib.hid (hT.congr (ks' := [1]) (f' := fun _ => 0) (by simp) (fun x hx => by simp at hx; simp [hx]))
      have K3 := Lib.hid (K2.out.trans hk (fun _ _ f => f) (fun j hj f => by omega))
      clear hT hk
      go_wp2_with fail
      go_loopw [5] (fun iv wr => ∃ i : Nat, i ≤ n ∧ iv = .int .i64 i ∧ TimA wr p m (1 + i) 3 [1] (fun _ => (i : Int)) ∧ Keep NoF w wr) (fun iv _ => n - (intOf iv).toNat)
      case atStart => exact ⟨0, Nat.zero_le _, rfl, HT3.out, K3.out⟩
      case round =>
        obtain ⟨i, hi, rfl, hT, hk⟩ := hrel
        have HT := Lib.hid hT; have KW := Lib.hid hk
        clear hT hk
        by_cases hlt : i < n
        · have hlt2 : (i : Int) < n := by omega
          go_wp2_with fail
          refine (tickA_any p m (1 + i) 3 [1] _ wr HT.out (by rw [srt1]; simp; omega)).mono ?_
          rintro e w5 ⟨v, rfl, _, _, hT, hk⟩
          rw [srt1] at hT
          have HT5 := Lib.hid (hT.congr (f' := fun _ => ((i + 1 : Nat) : Int)) (fun _ => Iff.rfl) (fun _ _ => by simp))
          have K5 := Lib.hid (KW.out.trans hk (fun _ _ f => f) (fun j hj f => by omega))
          clear hT hk
          go_wp2_with fail
          go_roundw
          case rel => exact ⟨i + 1, by omega, by go_num, HT5.out.mono (by simp; omega), K5.out⟩
          case measure => simp [intOf]; omega
        · have hlt2 : ¬ (i : Int) < n := by omega
          go_wp2_with fail
          refine (goneA_any p m (1 + i) 3 [1] _ 1 (by decide) wr HT.out).mono ?_
          rintro e w5 ⟨rfl, hT, hk⟩
          rw [show decide ((1 : Int) ∈ [(1 : Int)]) = true from by decide]
          have HT5 := Lib.hid (hT.congr (ks' := []) (f' := fun _ => 0) (by simp) (by simp))
          have K5 := Lib.hid (KW.out.trans hk (fun _ _ f => f) (fun j hj f => by omega))
          clear hT hk
          go_wp2_with fail
          refine (goneA_any p m (1 + i) 3 [] _ 1 (by decide) w5 HT5.out).mono ?_
          rintro e w6 ⟨rfl, hT, hk⟩
          rw [show decide ((1 : Int) ∈ ([] : List Int)) = false from by decide]
          have HT6 := Lib.hid (hT.congr (ks' := []) (f' := fun _ => 0) (by simp) (by simp))
          have K6 := Lib.hid (K5.out.trans hk (fun _ _ f => f) (fun j hj f => by omega))
          clear hT hk
          go_wp2_with fail
          refine (tickA_any p m (1 + i) 3 [] _ w6 HT6.out (by rw [srt0]; simp; omega)).mono ?_
          rintro e w7 ⟨v, rfl, hrow, _, hT, hk⟩
          rw [show lateA 3 [] (fun _ => 0) = [] by unfold lateA; rw [srt0]; rfl] at hrow
          rw [srt0] at hT
          obtain ⟨a7, c7, hv7⟩ := row_slice hrow
          simp only [List.length_nil] at hv7
          subst hv7
          have HT7 := Lib.hid hT
          have K7 := Lib.hid (K6.out.trans hk (fun _ _ f => f) (fun j hj f => by omega))
          clear hT hk hrow
          go_wp2_with fail
          refine (heardA_any p m _ 3 [] _ 1 (by decide) w7 HT7.out (by simp; omega)).mono ?_
          rintro e w8 ⟨rfl, hT, hk⟩
          have HT8 := Lib.hid (hT.congr (ks' := [1]) (f' := fun _ => 0) (by simp) (fun x hx => by simp at hx; simp [hx]))
          have K8 := Lib.hid (K7.out.trans hk (fun _ _ f => f) (fun j hj f => by omega))
          clear hT hk
          go_wp2_with fail
          refine (ageA_any p m _ 3 [1] _ 1 (by decide) w8 HT8.out).mono ?_
          rintro e w' ⟨rfl, hw⟩
          obtain rfl : w8 = w' := hw.symm
          rw [show ageA [1] (fun _ => 0) 1 = 0 from by simp [ageA]]
          go_wp2_with fail
          refine (allA_any p m _ 3 [1] _ w8 HT8.out (by simp; omega)).mono ?_
          rintro e w9 ⟨v, rfl, hrow, _, hk⟩
          rw [srt1] at hrow
          obtain ⟨a9, c9, hv9⟩ := row_slice hrow
          simp only [List.length_cons, List.length_nil, Nat.zero_add] at hv9
          subst hv9
          have K9 := Lib.hid (K8.out.trans' hk)
          clear hk hrow
          go_wp2_with fail
          go_ret
          exact ⟨rfl, K9.out⟩

set_option linter.unusedVariables false
set_option maxRecDepth 100000 in
theorem lifted (os : Os) (started : os.Started) (H : Type) (enc : TypeId × Value → H) :
    ReturnsInHanded {} Try.checked os 7 .any (Rows.timerGoneSpec.pre6 enc Try.prog Try.f7 Rows.timerGoneRow.domain false) (Rows.timerGoneSpec.post enc Try.prog Try.f7 false true false false) := by
  refine returnsInHanded_of_change (C := Try.checked) own started (by kernel_rfl) Try.func7
    (ChangeSpec.witness6 (enc := enc) (C := Try.checked) false ⟨#[], #[.int .i64 0], []⟩ 8 (by kernel_rfl) (by kernel_rfl) (by kernel_rfl) (by kernel_rfl)) ?_
  intro W base args ds gs before hval0 hW hcnd _
  have hval : ∀ (j : Nat) t v, Try.f7.params[j]? = some t → args[j]? = some v → Value.okWide Try.prog W .any base t v := hval0
  have hW' := hW
  obtain ⟨p, q, hA0, hV, rfl, hfz, hnd⟩ := hW
  have hA : DataW.TrodAll enc Try.prog W 0 (fun _ => true) true Try.f7.params.toList args.toList ds p := hA0
  rw [Try.params7] at hA hval
  obtain ⟨v0, vs0, d0, ds0, p0, q0, hargs, rfl, rfl, h0, r0⟩ := trodAll_cons hA
  obtain ⟨rfl, rfl, rfl⟩ := trodAll_nil r0
  obtain rfl : args = #[v0] := by cases args; simp_all
  obtain ⟨rfl, rfl⟩ := trodVars_none hV
  obtain ⟨a0, rfl, rfl, rfl, w0⟩ := open_int Try.underlying3 (hval 0 3 v0 rfl rfl) h0
  clear hA0 hval0
  refine (walk W a0 w0).mono fun e W' ⟨he, hk⟩ => ?_
  subst he
  have bel := Keep.below hk
  exact ⟨_, rfl, _, _, _, [], _, [], hW', trodAll_mk1 (shut_bool Try.underlying4 _), (trodAll_cons_mk (shut_int Try.underlying3 w0) trodAll_mk0), rfl, bel.frame _, fun h => by cases h⟩

theorem over : Rows.timerGoneRow.holds Try.pinned (OpenSpec.ofChange Rows.timerGoneSpec) :=
  OpenClaim.holds_of_wide 7 Try.f7 rfl rfl rfl rfl rfl rfl rfl ⟨rfl, rfl, rfl, rfl, rfl⟩ rfl rfl rfl rfl rfl (by kernel_rfl) Try.func7 (by kernel_rfl)
    (of_decide_eq_true (by kernel_rfl)) (by unfold Func.isWrapper; rw [if_neg (of_decide_eq_false (by kernel_rfl))]; exact ⟨rfl, rfl⟩)
    (fun os started H enc _ => lifted os started H enc)

/-- The statement. -/
theorem proved : Rows.TimerGoneSaid := over
#print axioms proved
end Go.Proofs.Ytidpfkehmokdfaa.timerGone
