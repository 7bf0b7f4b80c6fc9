/- TopLong: the law returns true and changes nothing that was there. No conditions. -/
import Derived.Test.YtkjdclpneaepkaaGreatEv65
import Derived.Deep.CutRange
import Derived.Test.YtkjdclpneaepkaaGreatRows
import Derived.Test.YtkjdclpneaepkaaGreatGTopLong
import Derived.WalkKit
import Derived.ProofKit
import Derived.OpenShut
import Derived.ShutString
import Derived.ChangeOld
import Derived.Below
namespace Go.Proofs.YtkjdclpneaepkaaGreat.topLong
open Go Go.ChangeShapes Go.WideShapes Go.ChangeAt Go.RowKit
open Go.ChangeMaps (open_string shut_string)

theorem own : ownKnob Tryz.prog.godebug = none := by kernel_rfl
theorem laidOut : laidOutB Tryz.prog = true := facLaid

open Go.Proofs Go.Ev Go.RowKit
noncomputable def one (r : Nat) : Bool := runD Tryz.f10 noSp (restC Tryz.f10 5) (setP (some (.i .i64 (.ofNat r))) (path 0) .lf) .e
theorem all0 : allB one 4 = true := by kernel_rfl
theorem all1 : allB (fun i => one (Nat.add 4 i)) 4 = true := by kernel_rfl
theorem all2 : allB (fun i => one (Nat.add 8 i)) 3 = true := by kernel_rfl
theorem all3 : allB (fun i => one (Nat.add 11 i)) 3 = true := by kernel_rfl
theorem all (r : Nat) (h : r < 14) : one r = true := by
  rcases Nat.lt_or_ge r 4 with k | k
  · exact allB_ok all0 r k
  · rcases Nat.lt_or_ge r 8 with k2 | k2
    · have q := allB_ok all1 (r - 4) (by omega)
      rw [show r = Nat.add 4 (r - 4) from (Nat.add_sub_cancel' k).symm]; exact q
    · rcases Nat.lt_or_ge r 11 with k3 | k3
      · have q := allB_ok all2 (r - 8) (by omega)
        rw [show r = Nat.add 8 (r - 8) from (Nat.add_sub_cancel' k2).symm]; exact q
      · have q := allB_ok all3 (r - 11) (by omega)
        rw [show r = Nat.add 11 (r - 11) from (Nat.add_sub_cancel' k3).symm]; exact q
set_option maxRecDepth 8000 in
theorem walk (w : World) (n0 : Int) (hn0 : (Lit.int .i64 n0).wf = true) : Calls Tryz.prog 10 #[.int .i64 n0] w fun e w' => e = .returned (.bool true) ∧ Keep NoF w w' := by
  go_enter Tryz.func10, Tryz.ntmps10
  go_wp2_with fail
  refine (begtop w).mono ?_
  rintro e w1 ⟨rfl, hk⟩
  have K1 := Lib.hid hk
  clear hk
  go_wp2_with fail
  refine (small_any n0 hn0 14 (by omega) (by omega) w1).mono ?_
  rintro e w' ⟨r, hr, rfl, hw⟩
  obtain rfl : w1 = w' := hw.symm
  go_upto_region 5 with fail
  exact rest_D (fn := Tryz.f10) (by assumption) K1.out (setP (some (.i .i64 (.ofNat r))) (path 0) .lf) (of_decide_eq_true (by kernel_rfl)) rfl (TR1 rfl) (by kernel_rfl) (all r hr)

set_option linter.unusedVariables false
set_option maxRecDepth 100000 in
theorem lifted (os : Os) (started : os.Started) (H : Type) (enc : TypeId × Value → H) :
    ReturnsInHanded {} Tryz.checked os 10 .any (Rows.topLongSpec.pre6 enc Tryz.prog Tryz.f10 Rows.topLongRow.domain false) (Rows.topLongSpec.post enc Tryz.prog Tryz.f10 false true false false) := by
  refine returnsInHanded_of_change (C := Tryz.checked) own started (by kernel_rfl) Tryz.func10
    (ChangeSpec.witness6 (enc := enc) (C := Tryz.checked) false ⟨#[], #[.int .i64 0], []⟩ 8 (by kernel_rfl) (by kernel_rfl) (by kernel_rfl) (by kernel_rfl)) ?_
  intro W base args ds gs before hval0 hW hcnd _
  have hval : ∀ (j : Nat) t v, Tryz.f10.params[j]? = some t → args[j]? = some v → Value.okWide Tryz.prog W .any base t v := hval0
  have hW' := hW
  obtain ⟨p, q, hA0, hV, rfl, hfz, hnd⟩ := hW
  have hA : DataW.TrodAll enc Tryz.prog W 0 (fun _ => true) true Tryz.f10.params.toList args.toList ds p := hA0
  rw [Tryz.params10] at hA hval
  obtain ⟨v0, vs0, d0, ds0, p0, q0, hargs, rfl, rfl, h0, r0⟩ := trodAll_cons hA
  obtain ⟨rfl, rfl, rfl⟩ := trodAll_nil r0
  obtain rfl : args = #[v0] := by cases args; simp_all
  obtain ⟨rfl, rfl⟩ := trodVars_none hV
  obtain ⟨a0, rfl, rfl, rfl, w0⟩ := open_int Tryz.underlying3 (hval 0 3 v0 rfl rfl) h0
  clear hA0 hval0
  refine (walk W a0 w0).mono fun e W' ⟨he, hk⟩ => ?_
  subst he
  have bel := Keep.below hk
  exact ⟨_, rfl, _, _, _, [], _, [], hW', trodAll_mk1 (shut_bool Tryz.underlying4 _), (trodAll_cons_mk (shut_int Tryz.underlying3 w0) trodAll_mk0), rfl, bel.frame _, fun h => by cases h⟩

theorem over : Rows.topLongRow.holds Tryz.pinned (OpenSpec.ofChange Rows.topLongSpec) :=
  OpenClaim.holds_of_wide 10 Tryz.f10 rfl rfl rfl rfl rfl rfl rfl ⟨rfl, rfl, rfl, rfl, rfl⟩ rfl rfl rfl rfl rfl facName Tryz.func10 (joined_of facLaid facMaps facPlace facUnf facRec facNamed facKeys facHeard facEnter facLift facMake (by kernel_rfl))
    (of_decide_eq_true (by kernel_rfl)) (by unfold Func.isWrapper; rw [if_neg (of_decide_eq_false (by kernel_rfl))]; exact ⟨rfl, rfl⟩)
    (fun os started H enc _ => lifted os started H enc)

/-- The statement. -/
theorem proved : Rows.TopLongSaid := over
#print axioms proved
end Go.Proofs.YtkjdclpneaepkaaGreat.topLong
