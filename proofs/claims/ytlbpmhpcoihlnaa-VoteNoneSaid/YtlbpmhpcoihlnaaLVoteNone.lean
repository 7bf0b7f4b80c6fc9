/- VoteNone: the law returns true and changes nothing that was there. No conditions. -/
import Derived.Test.YtlbpmhpcoihlnaaBegun18
import Derived.Test.YtlbpmhpcoihlnaaRows
import Derived.WalkKit
import Derived.ProofKit
import Derived.OpenShut
import Derived.ShutString
import Derived.ChangeOld
import Derived.Below
namespace Go.Proofs.Ytlbpmhpcoihlnaa.voteNone
open Go Go.ChangeShapes Go.WideShapes Go.ChangeAt Go.RowKit
open Go.ChangeMaps (open_string shut_string)

theorem own : ownKnob Try.prog.godebug = none := by kernel_rfl
theorem laidOut : laidOutB Try.prog = true := by kernel_rfl

set_option maxHeartbeats 1000000 in
theorem walk (w : World) : Calls Try.prog 5 #[] w fun e w' => e = .returned (.bool true) ∧ Keep NoF w w' := by
  go_enter Try.func5, Try.ntmps5
  go_wp2_with fail
  refine (begun18_any w).mono ?_
  rintro e w1 ⟨rfl, hk⟩
  have K1 := Lib.hid hk
  clear hk
  go_wp2_with fail
  refine (vote_nil 1 true w1).mono ?_
  rintro e w2 ⟨rfl, h⟩
  have hs := h.symm
  clear h
  subst hs
  go_wp2_with fail
  refine (how_nil w1).mono ?_
  rintro e w2 ⟨rfl, h⟩
  have hs := h.symm
  clear h
  subst hs
  go_wp2_with fail
  refine (missing_nil w1).mono ?_
  rintro e w2 ⟨rfl, hk⟩
  have K2 := Lib.hid hk
  clear hk
  go_wp2_with fail
  refine (voters_nil w2).mono ?_
  rintro e w3 ⟨rfl, h⟩
  have hs := h.symm
  clear h
  subst hs
  go_wp2_with fail
  go_ret
  exact ⟨rfl, K1.out.trans' K2.out⟩

set_option linter.unusedVariables false
set_option maxRecDepth 100000 in
theorem lifted (os : Os) (started : os.Started) (H : Type) (enc : TypeId × Value → H) :
    ReturnsInHanded {} Try.checked os 5 .any (Rows.voteNoneSpec.pre6 enc Try.prog Try.f5 Rows.voteNoneRow.domain false) (Rows.voteNoneSpec.post enc Try.prog Try.f5 false true false false) := by
  refine returnsInHanded_of_change (C := Try.checked) own started (by kernel_rfl) Try.func5
    (ChangeSpec.witness6 (enc := enc) (C := Try.checked) false ⟨#[], #[], []⟩ 8 (by kernel_rfl) (by kernel_rfl) (by kernel_rfl) (by kernel_rfl)) ?_
  intro W base args ds gs before hval0 hW hcnd _
  have hval : ∀ (j : Nat) t v, Try.f5.params[j]? = some t → args[j]? = some v → Value.okWide Try.prog W .any base t v := hval0
  have hW' := hW
  obtain ⟨p, q, hA0, hV, rfl, hfz, hnd⟩ := hW
  have hA : DataW.TrodAll enc Try.prog W 0 (fun _ => true) true Try.f5.params.toList args.toList ds p := hA0
  rw [Try.params5] at hA hval
  obtain ⟨rfl, rfl, rfl⟩ := trodAll_none hA
  obtain ⟨rfl, rfl⟩ := trodVars_none hV
  clear hA0 hval0
  refine (walk W ).mono fun e W' ⟨he, hk⟩ => ?_
  subst he
  have bel := Keep.below hk
  exact ⟨_, rfl, _, _, _, [], _, [], hW', trodAll_mk1 (shut_bool Try.underlying4 _), trodAll_mk0, rfl, bel.frame _, fun h => by cases h⟩

theorem over : Rows.voteNoneRow.holds Try.pinned (OpenSpec.ofChange Rows.voteNoneSpec) :=
  OpenClaim.holds_of_wide 5 Try.f5 rfl rfl rfl rfl rfl rfl rfl ⟨rfl, rfl, rfl, rfl, rfl⟩ rfl rfl rfl rfl rfl (by kernel_rfl) Try.func5 (by kernel_rfl)
    (of_decide_eq_true (by kernel_rfl)) (by unfold Func.isWrapper; rw [if_neg (of_decide_eq_false (by kernel_rfl))]; exact ⟨rfl, rfl⟩)
    (fun os started H enc _ => lifted os started H enc)

/-- The statement. -/
theorem proved : Rows.VoteNoneSaid := over
#print axioms proved
end Go.Proofs.Ytlbpmhpcoihlnaa.voteNone
