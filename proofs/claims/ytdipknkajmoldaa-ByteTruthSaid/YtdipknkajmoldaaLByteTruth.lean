/- ByteTruth: the law returns true and changes nothing that was there. No conditions. -/
import Derived.Test.YtdipknkajmoldaaLawBase
import Derived.Test.YtdipknkajmoldaaRows
import Derived.WalkKit
import Derived.ProofKit
import Derived.OpenShut
import Derived.ShutString
import Derived.ChangeOld
import Derived.Below
namespace Go.Proofs.Ytdipknkajmoldaa.byteTruth
open Go Go.ChangeShapes Go.WideShapes Go.ChangeAt Go.RowKit
open Go.ChangeMaps (open_string shut_string)

theorem own : ownKnob Try.prog.godebug = none := by kernel_rfl
theorem laidOut : laidOutB Try.prog = true := by kernel_rfl

theorem rd_two (b : UInt8) : rdN 1 (some [b, 1]) = b.toNat ∧ rdS 1 (some [b, 1]) = some [1] := by
  constructor
  · simp [rdN, leNat]
  · simp [rdS]

set_option maxHeartbeats 1000000 in
theorem walk (x : Int) (hx : (Lit.int .u8 x).wf = true) (w : World) :
    Calls Try.prog 13 #[.int .u8 x] w fun e w' => e = .returned (.bool true) ∧ Keep NoF w w' := by
  obtain ⟨b, rfl⟩ := u8_of (bounds_u8 hx)
  clear hx
  obtain ⟨r1, r2⟩ := rd_two b
  have R1 := Lib.hid r1; have R2 := Lib.hid r2
  clear r1 r2
  by_cases h1 : 1 < b.toNat
  · have e1 : ((b.toNat : Int) == 1) = false := by simp; omega
    have t1 : decide (rdN 1 (some [b, 1]) = 1) = false := by rw [R1.out]; simp; omega
    have t2 : rdTr (some [b, 1]) = none := by unfold rdTr; rw [R1.out, if_pos h1]
    have t3 : rdTr none = none := rfl
    have h1' : decide ((1 : Int) < b.toNat) = true := by simp; omega
    have h1'' : decide ((b.toNat : Int) ≤ 1) = false := by simp; omega
    go_enter Try.func13, Try.ntmps13
    go_wp2_with fail
    refine (begun_any w).mono ?_
    rintro e w1 ⟨rfl, hk⟩
    have H := Lib.hid hk; clear hk
    go_wp2_with fail
    refine (read_at _ _ _ _ (SlB.new w1 [b, 1] 5 (0, 0) (show 2 ≤ maxLen by decide)) (by simp [blockOf]) (w1.heap.size + 1) (by simp)).mono ?_
    rintro e w2 ⟨rfl, hR, hk2⟩
    have H2 := Lib.hid hk2; clear hk2
    go_wp2_with fail
    refine (intruth_any _ _ _ w2 hR).mono ?_
    rintro e w3 ⟨rfl, hR3, hk3⟩
    rw [t2] at hR3
    rw [t1]
    have H3 := Lib.hid hk3; clear hk3
    go_wp2_with fail
    refine (inbad_any _ _ _ w3 hR3).mono ?_
    rintro e w' ⟨rfl, rfl⟩
    go_wp2_with fail
    refine (intruth_any _ _ _ w3 hR3).mono ?_
    rintro e w4 ⟨rfl, hR4, hk4⟩
    have H4 := Lib.hid hk4; clear hk4
    rw [show decide (rdN 1 (none : Option (List UInt8)) = 1) = false from rfl]
    go_wp2_with fail
    go_ret
    refine ⟨rfl, ?_⟩
    have q : Keep NoF w1 w2 := ((Keep.refl NoF w1).alloc _).trans' H2.out
    refine H.out.trans' (q.trans (H3.out.trans' H4.out) (fun _ _ f => f) (fun i hi f => ?_))
    subst f
    omega
  · have t2 : rdTr (some [b, 1]) = some [1] := by unfold rdTr; rw [R1.out, if_neg h1, R2.out]
    have t5 : decide (rdN 1 (some [1]) = 1) = true := by decide
    have t1 : decide (rdN 1 (some [b, 1]) = 1) = ((b.toNat : Int) == 1) := by
      rw [R1.out, Bool.eq_iff_iff]; simp; omega
    have h1' : decide ((1 : Int) < b.toNat) = false := by simp; omega
    have h1'' : decide ((b.toNat : Int) ≤ 1) = true := by simp; omega
    obtain ⟨c, hc⟩ : ∃ c, ((b.toNat : Int) == 1) = c := ⟨_, rfl⟩
    rw [hc] at t1
    cases c
    all_goals
      go_enter Try.func13, Try.ntmps13
      go_wp2_with fail
      refine (begun_any w).mono ?_
      rintro e w1 ⟨rfl, hk⟩
      have H := Lib.hid hk; clear hk
      go_wp2_with fail
      refine (read_at _ _ _ _ (SlB.new w1 [b, 1] 5 (0, 0) (show 2 ≤ maxLen by decide)) (by simp [blockOf]) (w1.heap.size + 1) (by simp)).mono ?_
      rintro e w2 ⟨rfl, hR, hk2⟩
      have H2 := Lib.hid hk2; clear hk2
      go_wp2_with fail
      refine (intruth_any _ _ _ w2 hR).mono ?_
      rintro e w3 ⟨rfl, hR3, hk3⟩
      rw [t2] at hR3
      rw [t1]
      have H3 := Lib.hid hk3; clear hk3
      go_wp2_with fail
      refine (inbad_any _ _ _ w3 hR3).mono ?_
      rintro e w' ⟨rfl, rfl⟩
      go_wp2_with fail
      refine (intruth_any _ _ _ w3 hR3).mono ?_
      rintro e w4 ⟨rfl, hR4, hk4⟩
      have H4 := Lib.hid hk4; clear hk4
      rw [t5]
      go_wp2_with fail
      go_ret
      refine ⟨rfl, ?_⟩
      have q : Keep NoF w1 w2 := ((Keep.refl NoF w1).alloc _).trans' H2.out
      refine H.out.trans' (q.trans (H3.out.trans' H4.out) (fun _ _ f => f) (fun i hi f => ?_))
      subst f
      omega

set_option linter.unusedVariables false
set_option maxRecDepth 100000 in
theorem lifted (os : Os) (started : os.Started) (H : Type) (enc : TypeId × Value → H) :
    ReturnsInHanded {} Try.checked os 13 .any (Rows.byteTruthSpec.pre6 enc Try.prog Try.f13 Rows.byteTruthRow.domain false) (Rows.byteTruthSpec.post enc Try.prog Try.f13 false true false false) := by
  refine returnsInHanded_of_change (C := Try.checked) own started (by kernel_rfl) Try.func13
    (ChangeSpec.witness6 (enc := enc) (C := Try.checked) false ⟨#[], #[.int .u8 0], []⟩ 8 (by kernel_rfl) (by kernel_rfl) (by kernel_rfl) (by kernel_rfl)) ?_
  intro W base args ds gs before hval0 hW hcnd _
  have hval : ∀ (j : Nat) t v, Try.f13.params[j]? = some t → args[j]? = some v → Value.okWide Try.prog W .any base t v := hval0
  have hW' := hW
  obtain ⟨p, q, hA0, hV, rfl, hfz, hnd⟩ := hW
  have hA : DataW.TrodAll enc Try.prog W 0 (fun _ => true) true Try.f13.params.toList args.toList ds p := hA0
  rw [Try.params13] at hA hval
  obtain ⟨v0, vs0, d0, ds0, p0, q0, hargs, rfl, rfl, h0, r0⟩ := trodAll_cons hA
  obtain ⟨rfl, rfl, rfl⟩ := trodAll_nil r0
  obtain rfl : args = #[v0] := by cases args; simp_all
  obtain ⟨rfl, rfl⟩ := trodVars_none hV
  obtain ⟨a0, rfl, rfl, rfl, w0⟩ := open_int Try.underlying5 (hval 0 5 v0 rfl rfl) h0
  clear hA0 hval0
  refine (walk a0 w0 W).mono fun e W' ⟨he, hk⟩ => ?_
  subst he
  have bel := Keep.below hk
  exact ⟨_, rfl, _, _, _, [], _, [], hW', trodAll_mk1 (shut_bool Try.underlying4 _), (trodAll_cons_mk (shut_int Try.underlying5 w0) trodAll_mk0), rfl, bel.frame _, fun h => by cases h⟩

theorem over : Rows.byteTruthRow.holds Try.pinned (OpenSpec.ofChange Rows.byteTruthSpec) :=
  OpenClaim.holds_of_wide 13 Try.f13 rfl rfl rfl rfl rfl rfl rfl ⟨rfl, rfl, rfl, rfl, rfl⟩ rfl rfl rfl rfl rfl (by kernel_rfl) Try.func13 (by kernel_rfl)
    (of_decide_eq_true (by kernel_rfl)) (by unfold Func.isWrapper; rw [if_neg (of_decide_eq_false (by kernel_rfl))]; exact ⟨rfl, rfl⟩)
    (fun os started H enc _ => lifted os started H enc)

/-- The statement. -/
theorem proved : Rows.ByteTruthSaid := over
#print axioms proved
end Go.Proofs.Ytdipknkajmoldaa.byteTruth
