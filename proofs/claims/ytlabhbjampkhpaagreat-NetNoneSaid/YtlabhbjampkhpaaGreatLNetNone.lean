/- NetNone: the law returns true and changes nothing that was there. No conditions. -/
import Derived.Test.YtlabhbjampkhpaaGreatBegun15
import Derived.Test.YtlabhbjampkhpaaGreatRows
import Derived.WalkKit
import Derived.ProofKit
import Derived.OpenShut
import Derived.ShutString
import Derived.ChangeOld
import Derived.Below
namespace Go.Proofs.YtlabhbjampkhpaaGreat.netNone
open Go Go.ChangeShapes Go.WideShapes Go.ChangeAt Go.RowKit
open Go.ChangeMaps (open_string shut_string)

theorem own : ownKnob Tryz.prog.godebug = none := by kernel_rfl
theorem laidOut : laidOutB Tryz.prog = true := by kernel_rfl

open Go.Proofs Go.RowKit
def pa : PackV := ⟨5, 1, 2, 4294967297, 0, false⟩
theorem pa_good : GoodP pa := ⟨by unfold pa PackV.Ok In64; decide, by decide⟩
set_option maxHeartbeats 2000000 in
set_option maxRecDepth 8000 in
theorem walk (w : World) : Calls Tryz.prog 8 #[] w fun e w' => e = .returned (.bool true) ∧ Keep NoF w w' := by
  have HL : Hid (∀ W, Calls Tryz.prog 24 #[.pointer none, .int .i64 0] W fun e w' => e = .returned (.tuple #[.agg #[.int .i64 0, .int .i64 0, .int .i64 0, .int .i64 0, .int .i64 0, .bool false], .bool false]) ∧ Keep NoF W w') := Lib.hid fun W => look_nil 0 W
  have HT : Hid (∀ W, Calls Tryz.prog 25 #[.pointer none, .int .i64 0] W fun e w' => e = .returned (.tuple #[.agg #[.int .i64 0, .int .i64 0, .int .i64 0, .int .i64 0, .int .i64 0, .bool false], .bool false]) ∧ Keep NoF W w') := Lib.hid fun W => take_nil 0 W
  have HS : Hid (∀ W, Calls Tryz.prog 21 #[.pointer none, .agg #[.int .i64 5, .int .i64 1, .int .i64 2, .int .i64 4294967297, .int .i64 0, .bool false]] W fun e w' => e = .returned (.bool false) ∧ Keep NoF W w') := Lib.hid fun W => send_nil pa W pa_good
  go_enter Tryz.func8, Tryz.ntmps8
  go_wp2_with fail
  refine (HL.out w).mono ?_
  rintro e w1 ⟨rfl, hk1⟩
  have K1 := Lib.hid hk1; clear hk1
  go_wp2_with fail
  refine (HT.out _).mono ?_
  rintro e w2 ⟨rfl, hk2⟩
  have K2 := Lib.hid ((K1.out.alloc _).trans' hk2); clear hk2
  go_wp2_with fail
  refine (begun15_any _).mono ?_
  rintro e w3 ⟨rfl, hk3⟩
  have K3 := Lib.hid ((K2.out.alloc _).trans' hk3); clear hk3
  go_wp2_with fail
  refine (HS.out w3).mono ?_
  rintro e w4 ⟨rfl, hk4⟩
  have K4 := Lib.hid (K3.out.trans' hk4); clear hk4
  go_wp2_with fail
  refine (netlen_nil w4).mono ?_
  rintro e w' ⟨rfl, hw⟩
  obtain rfl : w4 = w' := hw.symm
  go_wp2_with fail
  refine (twice_nil 0 w4).mono ?_
  rintro e w5 ⟨rfl, hk5⟩
  have K5 := Lib.hid (K4.out.trans' hk5); clear hk5
  go_wp2_with fail
  go_ret
  exact ⟨rfl, K5.out⟩

set_option linter.unusedVariables false
set_option maxRecDepth 100000 in
theorem lifted (os : Os) (started : os.Started) (H : Type) (enc : TypeId × Value → H) :
    ReturnsInHanded {} Tryz.checked os 8 .any (Rows.netNoneSpec.pre6 enc Tryz.prog Tryz.f8 Rows.netNoneRow.domain false) (Rows.netNoneSpec.post enc Tryz.prog Tryz.f8 false true false false) := by
  refine returnsInHanded_of_change (C := Tryz.checked) own started (by kernel_rfl) Tryz.func8
    (ChangeSpec.witness6 (enc := enc) (C := Tryz.checked) false ⟨#[], #[], []⟩ 8 (by kernel_rfl) (by kernel_rfl) (by kernel_rfl) (by kernel_rfl)) ?_
  intro W base args ds gs before hval0 hW hcnd _
  have hval : ∀ (j : Nat) t v, Tryz.f8.params[j]? = some t → args[j]? = some v → Value.okWide Tryz.prog W .any base t v := hval0
  have hW' := hW
  obtain ⟨p, q, hA0, hV, rfl, hfz, hnd⟩ := hW
  have hA : DataW.TrodAll enc Tryz.prog W 0 (fun _ => true) true Tryz.f8.params.toList args.toList ds p := hA0
  rw [Tryz.params8] at hA hval
  obtain ⟨rfl, rfl, rfl⟩ := trodAll_none hA
  obtain ⟨rfl, rfl⟩ := trodVars_none hV
  clear hA0 hval0
  refine (walk W ).mono fun e W' ⟨he, hk⟩ => ?_
  subst he
  have bel := Keep.below hk
  exact ⟨_, rfl, _, _, _, [], _, [], hW', trodAll_mk1 (shut_bool Tryz.underlying4 _), trodAll_mk0, rfl, bel.frame _, fun h => by cases h⟩

theorem over : Rows.netNoneRow.holds Tryz.pinned (OpenSpec.ofChange Rows.netNoneSpec) :=
  OpenClaim.holds_of_wide 8 Tryz.f8 rfl rfl rfl rfl rfl rfl rfl ⟨rfl, rfl, rfl, rfl, rfl⟩ rfl rfl rfl rfl rfl (by kernel_rfl) Tryz.func8 (by kernel_rfl)
    (of_decide_eq_true (by kernel_rfl)) (by unfold Func.isWrapper; rw [if_neg (of_decide_eq_false (by kernel_rfl))]; exact ⟨rfl, rfl⟩)
    (fun os started H enc _ => lifted os started H enc)

/-- The statement. -/
theorem proved : Rows.NetNoneSaid := over
#print axioms proved
end Go.Proofs.YtlabhbjampkhpaaGreat.netNone
