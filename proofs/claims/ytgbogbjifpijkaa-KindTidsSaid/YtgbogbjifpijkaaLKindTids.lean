/- KindTids: the law returns true and changes nothing that was there. No conditions. -/
import Derived.Test.YtgbogbjifpijkaaLaw8
import Derived.Test.YtgbogbjifpijkaaRows
import Derived.WalkKit
import Derived.ProofKit
import Derived.OpenShut
import Derived.ShutString
import Derived.ChangeOld
import Derived.Below
namespace Go.Proofs.Ytgbogbjifpijkaa.kindTids
open Go Go.ChangeShapes Go.WideShapes Go.ChangeAt Go.RowKit
open Go.ChangeMaps (open_string shut_string)

theorem own : ownKnob Try.prog.godebug = none := by kernel_rfl
theorem laidOut : laidOutB Try.prog = true := by kernel_rfl

set_option maxHeartbeats 4000000 in
theorem walk (w : World) (b : Int) (hb : (Lit.int .i64 b).wf = true) (n : Int) (hn : (Lit.int .i64 n).wf = true) (t : Int) (ht : (Lit.int .i64 t).wf = true) :
    Calls Try.prog 4 #[.int .i64 b, .int .i64 n, .int .i64 t] w fun e w' => e = .returned (.bool true) ∧ Keep NoF w w' := by
  have bb := bounds_i64 hb
  have bn := bounds_i64 hn
  have bt := bounds_i64 ht
  have hm := make_facts b n
  have HKM := fun W => kmake_any b n W bb bn
  have HRM := fun W => rmake_any b n W bb bn
  obtain ⟨m, hmd⟩ : ∃ m, makeOf b n = m := ⟨_, rfl⟩
  rw [hmd] at hm
  rw [hmd] at HKM HRM
  have HM := Lib.hid hm; have HKM2 := Lib.hid HKM; have HRM2 := Lib.hid HRM
  have hl := homeOf_le t
  obtain ⟨ho, hho⟩ : ∃ h, homeOf t = h := ⟨_, rfl⟩
  obtain ⟨td, htd⟩ : ∃ h, tidB t = h := ⟨_, rfl⟩
  rw [hho] at hl
  have HHO := Lib.hid hho; have HTD := Lib.hid htd
  clear hb hn ht hm HKM HRM hmd hho htd
  rcases HM.out with ⟨rfl, -⟩ | ⟨-, -, htm, hhm, hm1, hm2⟩
  · go_enter Try.func4, Try.ntmps4
    go_wp2_with fail
    refine (begun8_any w).mono ?_
    rintro e w1 ⟨rfl, hk⟩
    have K1 := Lib.hid hk; clear hk
    go_wp2_with fail
    refine (HKM2.out w1).mono ?_
    rintro e w2 ⟨rfl, rfl⟩
    go_wp2_with fail
    refine (HRM2.out _).mono ?_
    rintro e w3 ⟨rfl, rfl⟩
    go_wp2_with fail
    refine (ktid_any 0 _ (by omega)).mono ?_
    rintro e w4 ⟨rfl, rfl⟩
    rw [tid_zero]
    go_wp2_with fail
    refine (ktid_any t _ bt).mono ?_
    rintro e w4 ⟨rfl, rfl⟩
    rw [HTD.out]
    go_wp2_with fail
    refine (rtid_any t _ bt).mono ?_
    rintro e w4 ⟨rfl, rfl⟩
    rw [HTD.out]
    go_wp2_with fail
    refine (khome_any t _ bt).mono ?_
    rintro e w4 ⟨rfl, rfl⟩
    rw [HHO.out]
    go_wp2_with fail
    refine (rhome_any t _ bt).mono ?_
    rintro e w4 ⟨rfl, rfl⟩
    rw [HHO.out]
    go_wp2_with fail
    go_ret
    exact ⟨rfl, K1.out⟩
  · have hm0 : (m == 0) = false := by simp; omega
    have hm3 : (m != 0) = true := by simp; omega
    have HTM := Lib.hid htm; have HHM := Lib.hid hhm
    clear htm hhm
    go_enter Try.func4, Try.ntmps4
    go_wp2_with fail
    refine (begun8_any w).mono ?_
    rintro e w1 ⟨rfl, hk⟩
    have K1 := Lib.hid hk; clear hk
    go_wp2_with fail
    refine (HKM2.out w1).mono ?_
    rintro e w2 ⟨rfl, rfl⟩
    go_wp2_with fail
    refine (HRM2.out _).mono ?_
    rintro e w3 ⟨rfl, rfl⟩
    go_wp2_with fail
    refine (ktid_any m _ (by omega)).mono ?_
    rintro e w4 ⟨rfl, rfl⟩
    rw [HTM.out]
    go_wp2_with fail
    refine (khome_any m _ (by omega)).mono ?_
    rintro e w4 ⟨rfl, rfl⟩
    rw [HHM.out]
    go_wp2_with fail
    refine (ktid_any t _ bt).mono ?_
    rintro e w4 ⟨rfl, rfl⟩
    rw [HTD.out]
    go_wp2_with fail
    refine (rtid_any t _ bt).mono ?_
    rintro e w4 ⟨rfl, rfl⟩
    rw [HTD.out]
    go_wp2_with fail
    refine (khome_any t _ bt).mono ?_
    rintro e w4 ⟨rfl, rfl⟩
    rw [HHO.out]
    go_wp2_with fail
    refine (rhome_any t _ bt).mono ?_
    rintro e w4 ⟨rfl, rfl⟩
    rw [HHO.out]
    go_wp2_with fail
    go_ret
    exact ⟨rfl, K1.out⟩

set_option linter.unusedVariables false
set_option maxRecDepth 100000 in
theorem lifted (os : Os) (started : os.Started) (H : Type) (enc : TypeId × Value → H) :
    ReturnsInHanded {} Try.checked os 4 .any (Rows.kindTidsSpec.pre6 enc Try.prog Try.f4 Rows.kindTidsRow.domain false) (Rows.kindTidsSpec.post enc Try.prog Try.f4 false true false false) := by
  refine returnsInHanded_of_change (C := Try.checked) own started (by kernel_rfl) Try.func4
    (ChangeSpec.witness6 (enc := enc) (C := Try.checked) false ⟨#[], #[.int .i64 0, .int .i64 0, .int .i64 0], []⟩ 8 (by kernel_rfl) (by kernel_rfl) (by kernel_rfl) (by kernel_rfl)) ?_
  intro W base args ds gs before hval0 hW hcnd _
  have hval : ∀ (j : Nat) t v, Try.f4.params[j]? = some t → args[j]? = some v → Value.okWide Try.prog W .any base t v := hval0
  have hW' := hW
  obtain ⟨p, q, hA0, hV, rfl, hfz, hnd⟩ := hW
  have hA : DataW.TrodAll enc Try.prog W 0 (fun _ => true) true Try.f4.params.toList args.toList ds p := hA0
  rw [Try.params4] at hA hval
  obtain ⟨v0, vs0, d0, ds0, p0, q0, hargs, rfl, rfl, h0, r0⟩ := trodAll_cons hA
  obtain ⟨v1, vs1, d1, ds1, p1, q1, rfl, rfl, rfl, h1, r1⟩ := trodAll_cons r0
  obtain ⟨v2, vs2, d2, ds2, p2, q2, rfl, rfl, rfl, h2, r2⟩ := trodAll_cons r1
  obtain ⟨rfl, rfl, rfl⟩ := trodAll_nil r2
  obtain rfl : args = #[v0, v1, v2] := by cases args; simp_all
  obtain ⟨rfl, rfl⟩ := trodVars_none hV
  obtain ⟨a0, rfl, rfl, rfl, w0⟩ := open_int Try.underlying3 (hval 0 3 v0 rfl rfl) h0
  obtain ⟨a1, rfl, rfl, rfl, w1⟩ := open_int Try.underlying2 (hval 1 2 v1 rfl rfl) h1
  obtain ⟨a2, rfl, rfl, rfl, w2⟩ := open_int Try.underlying2 (hval 2 2 v2 rfl rfl) h2
  clear hA0 hval0
  refine (walk W a0 w0 a1 w1 a2 w2).mono fun e W' ⟨he, hk⟩ => ?_
  subst he
  have bel := Keep.below hk
  exact ⟨_, rfl, _, _, _, [], _, [], hW', trodAll_mk1 (shut_bool Try.underlying4 _), (trodAll_cons_mk (shut_int Try.underlying3 w0) (trodAll_cons_mk (shut_int Try.underlying2 w1) (trodAll_cons_mk (shut_int Try.underlying2 w2) trodAll_mk0))), rfl, bel.frame _, fun h => by cases h⟩

theorem over : Rows.kindTidsRow.holds Try.pinned (OpenSpec.ofChange Rows.kindTidsSpec) :=
  OpenClaim.holds_of_wide 4 Try.f4 rfl rfl rfl rfl rfl rfl rfl ⟨rfl, rfl, rfl, rfl, rfl⟩ rfl rfl rfl rfl rfl (by kernel_rfl) Try.func4 (by kernel_rfl)
    (of_decide_eq_true (by kernel_rfl)) (by unfold Func.isWrapper; rw [if_neg (of_decide_eq_false (by kernel_rfl))]; exact ⟨rfl, rfl⟩)
    (fun os started H enc _ => lifted os started H enc)

/-- The statement. -/
theorem proved : Rows.KindTidsSaid := over
#print axioms proved
end Go.Proofs.Ytgbogbjifpijkaa.kindTids
