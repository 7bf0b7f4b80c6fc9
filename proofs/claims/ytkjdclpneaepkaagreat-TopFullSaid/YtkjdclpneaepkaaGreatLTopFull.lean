/- TopFull: the law returns true and changes nothing that was there. No conditions. -/
import Derived.Test.YtkjdclpneaepkaaGreatTTopFullA
import Derived.Test.YtkjdclpneaepkaaGreatTTopFullB
import Derived.Test.YtkjdclpneaepkaaGreatTTopFullC
import Derived.Test.YtkjdclpneaepkaaGreatTTopFullD
import Derived.Test.YtkjdclpneaepkaaGreatTTopFullE
import Derived.Test.YtkjdclpneaepkaaGreatTTopFullF
import Derived.Deep.CutRange
import Derived.Test.YtkjdclpneaepkaaGreatRows
import Derived.Test.YtkjdclpneaepkaaGreatGTopFull
import Derived.WalkKit
import Derived.ProofKit
import Derived.OpenShut
import Derived.ShutString
import Derived.ChangeOld
import Derived.Below
namespace Go.Proofs.YtkjdclpneaepkaaGreat.topFull
open Go Go.ChangeShapes Go.WideShapes Go.ChangeAt Go.RowKit
open Go.ChangeMaps (open_string shut_string)

theorem own : ownKnob Tryz.prog.godebug = none := by kernel_rfl
theorem laidOut : laidOutB Tryz.prog = true := facLaid

open Go.Proofs Go.Ev Go.RowKit Bo
theorem two {p : Nat → Bool} (h : allB p 4 = true) (h' : allB (fun i => p (Nat.add 4 i)) 4 = true) (o : Nat) (ho : o < 8) : p o = true := by
  rcases Nat.lt_or_ge o 4 with k | k
  · exact allB_ok h o k
  · have q := allB_ok h' (o - 4) (by omega)
    rw [show o = Nat.add 4 (o - 4) from (Nat.add_sub_cancel' k).symm]; exact q
theorem all (n o : Nat) (h : n < 13) (h2 : o < 8) : oneTopFull n o = true := by
  match n, h with
  | 0, _ => exact two f0a f0b o h2
  | 1, _ => exact two f1a f1b o h2
  | 2, _ => exact two f2a f2b o h2
  | 3, _ => exact two f3a f3b o h2
  | 4, _ => exact two f4a f4b o h2
  | 5, _ => exact two f5a f5b o h2
  | 6, _ => exact two f6a f6b o h2
  | 7, _ => exact two f7a f7b o h2
  | 8, _ => exact two f8a f8b o h2
  | 9, _ => exact two f9a f9b o h2
  | 10, _ => exact two f10a f10b o h2
  | 11, _ => exact two f11a f11b o h2
  | 12, _ => exact two f12a f12b o h2
set_option maxRecDepth 8000 in
theorem walk (w : World) (n0 : Int) (hn0 : (Lit.int .i64 n0).wf = true) (m0 : Int) (hm0 : (Lit.int .i64 m0).wf = true) : Calls Tryz.prog 5 #[.int .i64 n0, .int .i64 m0] w fun e w' => e = .returned (.bool true) ∧ Keep NoF w w' := by
  go_enter Tryz.func5, Tryz.ntmps5
  go_wp2_with fail
  refine (begtop w).mono ?_
  rintro e w1 ⟨rfl, hk⟩
  have K1 := Lib.hid hk
  clear hk
  go_wp2_with fail
  refine (small_any n0 hn0 13 (by omega) (by omega) w1).mono ?_
  rintro e w' ⟨r, hr, rfl, hw⟩
  obtain rfl : w1 = w' := hw.symm
  go_wp2_with fail
  refine (small_any m0 hm0 8 (by omega) (by omega) w1).mono ?_
  rintro e w' ⟨q, hq, rfl, hw⟩
  obtain rfl : w1 = w' := hw.symm
  go_upto_region 5 with fail
  exact rest_D (fn := Tryz.f5) (by assumption) K1.out (setP (some (.i .i64 (.ofNat q))) (path 1) (setP (some (.i .i64 (.ofNat r))) (path 0) .lf)) (of_decide_eq_true (by kernel_rfl)) rfl (TR2 (TR1 rfl) rfl) (by kernel_rfl) (all r q hr hq)

set_option linter.unusedVariables false
set_option maxRecDepth 100000 in
theorem lifted (os : Os) (started : os.Started) (H : Type) (enc : TypeId × Value → H) :
    ReturnsInHanded {} Tryz.checked os 5 .any (Rows.topFullSpec.pre6 enc Tryz.prog Tryz.f5 Rows.topFullRow.domain false) (Rows.topFullSpec.post enc Tryz.prog Tryz.f5 false true false false) := by
  refine returnsInHanded_of_change (C := Tryz.checked) own started (by kernel_rfl) Tryz.func5
    (ChangeSpec.witness6 (enc := enc) (C := Tryz.checked) false ⟨#[], #[.int .i64 0, .int .i64 0], []⟩ 8 (by kernel_rfl) (by kernel_rfl) (by kernel_rfl) (by kernel_rfl)) ?_
  intro W base args ds gs before hval0 hW hcnd _
  have hval : ∀ (j : Nat) t v, Tryz.f5.params[j]? = some t → args[j]? = some v → Value.okWide Tryz.prog W .any base t v := hval0
  have hW' := hW
  obtain ⟨p, q, hA0, hV, rfl, hfz, hnd⟩ := hW
  have hA : DataW.TrodAll enc Tryz.prog W 0 (fun _ => true) true Tryz.f5.params.toList args.toList ds p := hA0
  rw [Tryz.params5] at hA hval
  obtain ⟨v0, vs0, d0, ds0, p0, q0, hargs, rfl, rfl, h0, r0⟩ := trodAll_cons hA
  obtain ⟨v1, vs1, d1, ds1, p1, q1, rfl, rfl, rfl, h1, r1⟩ := trodAll_cons r0
  obtain ⟨rfl, rfl, rfl⟩ := trodAll_nil r1
  obtain rfl : args = #[v0, v1] := by cases args; simp_all
  obtain ⟨rfl, rfl⟩ := trodVars_none hV
  obtain ⟨a0, rfl, rfl, rfl, w0⟩ := open_int Tryz.underlying3 (hval 0 3 v0 rfl rfl) h0
  obtain ⟨a1, rfl, rfl, rfl, w1⟩ := open_int Tryz.underlying3 (hval 1 3 v1 rfl rfl) h1
  clear hA0 hval0
  refine (walk W a0 w0 a1 w1).mono fun e W' ⟨he, hk⟩ => ?_
  subst he
  have bel := Keep.below hk
  exact ⟨_, rfl, _, _, _, [], _, [], hW', trodAll_mk1 (shut_bool Tryz.underlying4 _), (trodAll_cons_mk (shut_int Tryz.underlying3 w0) (trodAll_cons_mk (shut_int Tryz.underlying3 w1) trodAll_mk0)), rfl, bel.frame _, fun h => by cases h⟩

theorem over : Rows.topFullRow.holds Tryz.pinned (OpenSpec.ofChange Rows.topFullSpec) :=
  OpenClaim.holds_of_wide 5 Tryz.f5 rfl rfl rfl rfl rfl rfl rfl ⟨rfl, rfl, rfl, rfl, rfl⟩ rfl rfl rfl rfl rfl facName Tryz.func5 (joined_of facLaid facMaps facPlace facUnf facRec facNamed facKeys facHeard facEnter facLift facMake (by kernel_rfl))
    (of_decide_eq_true (by kernel_rfl)) (by unfold Func.isWrapper; rw [if_neg (of_decide_eq_false (by kernel_rfl))]; exact ⟨rfl, rfl⟩)
    (fun os started H enc _ => lifted os started H enc)

/-- The statement. -/
theorem proved : Rows.TopFullSaid := over
#print axioms proved
end Go.Proofs.YtkjdclpneaepkaaGreat.topFull
