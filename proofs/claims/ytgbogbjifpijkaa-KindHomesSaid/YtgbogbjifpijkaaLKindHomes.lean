/- KindHomes: the law returns true and changes nothing that was there. No conditions. -/
import Derived.Test.YtgbogbjifpijkaaLaw8
import Derived.Test.YtgbogbjifpijkaaRows
import Derived.WalkKit
import Derived.ProofKit
import Derived.OpenShut
import Derived.ShutString
import Derived.ChangeOld
import Derived.Below
namespace Go.Proofs.Ytgbogbjifpijkaa.kindHomes
open Go Go.ChangeShapes Go.WideShapes Go.ChangeAt Go.RowKit
open Go.ChangeMaps (open_string shut_string)

theorem own : ownKnob Try.prog.godebug = none := by kernel_rfl
theorem laidOut : laidOutB Try.prog = true := by kernel_rfl

set_option maxHeartbeats 8000000 in
theorem walk (w : World) (a : Int) (ha : (Lit.int .i64 a).wf = true) (b : Int) (hb : (Lit.int .i64 b).wf = true) (n : Int) (hn : (Lit.int .i64 n).wf = true) (m : Int) (hm : (Lit.int .i64 m).wf = true) :
    Calls Try.prog 11 #[.int .i64 a, .int .i64 b, .int .i64 n, .int .i64 m] w fun e w' => e = .returned (.bool true) ∧ Keep NoF w w' := by
  have ba := bounds_i64 ha
  have bb := bounds_i64 hb
  have bn := bounds_i64 hn
  have bm := bounds_i64 hm
  obtain ⟨va, hva⟩ : ∃ v, brokerB a = v := ⟨_, rfl⟩
  obtain ⟨vb, hvb⟩ : ∃ v, brokerB b = v := ⟨_, rfl⟩
  have hA := fun W => rbroker_any a W
  have hB := fun W => rbroker_any b W
  rw [hva] at hA
  rw [hvb] at hB
  have HA := Lib.hid hA; have HB := Lib.hid hB; have HVA := Lib.hid hva; have HVB := Lib.hid hvb
  clear ha hb hn hm hA hB hva hvb
  go_enter Try.func11, Try.ntmps11
  go_wp2_with fail
  refine (begun8_any w).mono ?_
  rintro e w1 ⟨rfl, hk⟩
  have K1 := Lib.hid hk; clear hk
  go_wp2_with fail
  refine (HA.out _).mono ?_
  rintro e w2 ⟨rfl, rfl⟩
  cases va
  case false =>
    go_wp2_with fail
    refine (kmake_any a n _ ba bn).mono ?_
    rintro e w8 ⟨rfl, rfl⟩
    go_wp2_with fail
    refine (rmake_any a n _ ba bn).mono ?_
    rintro e w9 ⟨rfl, rfl⟩
    go_wp2_with fail
    go_ret
    exact ⟨rfl, K1.out⟩
  go_wp2_with fail
  refine (HB.out _).mono ?_
  rintro e w3 ⟨rfl, rfl⟩
  cases vb
  case false =>
    go_wp2_with fail
    refine (kmake_any a n _ ba bn).mono ?_
    rintro e w8 ⟨rfl, rfl⟩
    go_wp2_with fail
    refine (rmake_any a n _ ba bn).mono ?_
    rintro e w9 ⟨rfl, rfl⟩
    go_wp2_with fail
    go_ret
    exact ⟨rfl, K1.out⟩
  by_cases h1 : n < 1
  · go_wp2_with fail
    refine (kmake_any a n _ ba bn).mono ?_
    rintro e w8 ⟨rfl, rfl⟩
    go_wp2_with fail
    refine (rmake_any a n _ ba bn).mono ?_
    rintro e w9 ⟨rfl, rfl⟩
    go_wp2_with fail
    go_ret
    exact ⟨rfl, K1.out⟩
  have h1b : 1 ≤ n := by omega
  clear h1
  by_cases h2 : 4294967296 ≤ n
  · go_wp2_with fail
    refine (kmake_any a n _ ba bn).mono ?_
    rintro e w8 ⟨rfl, rfl⟩
    go_wp2_with fail
    refine (rmake_any a n _ ba bn).mono ?_
    rintro e w9 ⟨rfl, rfl⟩
    go_wp2_with fail
    go_ret
    exact ⟨rfl, K1.out⟩
  have h2b : n < 4294967296 := by omega
  clear h2
  by_cases h3 : m < 1
  · go_wp2_with fail
    refine (kmake_any a n _ ba bn).mono ?_
    rintro e w8 ⟨rfl, rfl⟩
    go_wp2_with fail
    refine (rmake_any a n _ ba bn).mono ?_
    rintro e w9 ⟨rfl, rfl⟩
    go_wp2_with fail
    go_ret
    exact ⟨rfl, K1.out⟩
  have h3b : 1 ≤ m := by omega
  clear h3
  by_cases h4 : 4294967296 ≤ m
  · go_wp2_with fail
    refine (kmake_any a n _ ba bn).mono ?_
    rintro e w8 ⟨rfl, rfl⟩
    go_wp2_with fail
    refine (rmake_any a n _ ba bn).mono ?_
    rintro e w9 ⟨rfl, rfl⟩
    go_wp2_with fail
    go_ret
    exact ⟨rfl, K1.out⟩
  have h4b : m < 4294967296 := by omega
  clear h4
  have fa := brokerB_iff.1 HVA.out
  have fb := brokerB_iff.1 HVB.out
  obtain ⟨x, hx⟩ : ∃ x, makeOf a n = x := ⟨_, rfl⟩
  obtain ⟨y, hy⟩ : ∃ y, makeOf b m = y := ⟨_, rfl⟩
  have ex := make_facts a n
  have ey := make_facts b m
  have hX := fun W => kmake_any a n W ba bn
  have hY := fun W => kmake_any b m W bb bm
  rw [hx] at ex hX
  rw [hy] at ey hY
  have fx : x = a * 4294967296 + n ∧ homeOf x = a := by
    rcases ex with ⟨-, h⟩ | ⟨-, h1, -, h2, -, -⟩
    · exact absurd ⟨HVA.out, h1b, h2b⟩ h
    · exact ⟨h1, h2⟩
  have fy : y = b * 4294967296 + m ∧ homeOf y = b := by
    rcases ey with ⟨-, h⟩ | ⟨-, h1, -, h2, -, -⟩
    · exact absurd ⟨HVB.out, h3b, h4b⟩ h
    · exact ⟨h1, h2⟩
  have FX := fx.1
  have FY := fy.1
  have HXH := Lib.hid fx.2; have HYH := Lib.hid fy.2; have HX := Lib.hid hX; have HY := Lib.hid hY
  clear hx hy ex ey fx fy hX hY
  have hcase : (a = b ∧ n = m) ∨ (a = b ∧ n < m) ∨ (a = b ∧ m < n) ∨ a < b ∨ b < a := by omega
  rcases hcase with ⟨rfl, rfl⟩ | ⟨rfl, hnm⟩ | ⟨rfl, hnm⟩ | hab | hab
  · obtain rfl : x = y := by omega
    have bx : 0 ≤ x ∧ x ≤ 38654705664 := by omega
    clear FX FY
    skip
    go_wp2_with fail
    refine (HX.out _).mono ?_
    rintro e w4 ⟨rfl, rfl⟩
    go_wp2_with fail
    refine (HY.out _).mono ?_
    rintro e w5 ⟨rfl, rfl⟩
    go_wp2_with fail
    refine (khome_any x _ (by omega)).mono ?_
    rintro e w6 ⟨rfl, rfl⟩
    rw [HXH.out]
    go_wp2_with fail
    refine (khome_any x _ (by omega)).mono ?_
    rintro e w7 ⟨rfl, rfl⟩
    rw [HYH.out]
    go_wp2_with fail
    go_ret
    exact ⟨rfl, K1.out⟩
  · have hxy : x < y := by omega
    have hxe : (x == y) = false := by simp; omega
    have hne : (n == m) = false := by simp; omega
    have bx : 0 ≤ x ∧ x ≤ 38654705664 := by omega
    have by_ : 0 ≤ y ∧ y ≤ 38654705664 := by omega
    clear FX FY
    skip
    go_wp2_with fail
    refine (HX.out _).mono ?_
    rintro e w4 ⟨rfl, rfl⟩
    go_wp2_with fail
    refine (HY.out _).mono ?_
    rintro e w5 ⟨rfl, rfl⟩
    go_wp2_with fail
    refine (khome_any x _ (by omega)).mono ?_
    rintro e w6 ⟨rfl, rfl⟩
    rw [HXH.out]
    go_wp2_with fail
    refine (khome_any y _ (by omega)).mono ?_
    rintro e w7 ⟨rfl, rfl⟩
    rw [HYH.out]
    go_wp2_with fail
    go_ret
    exact ⟨rfl, K1.out⟩
  · have hxy : y ≤ x := by omega
    have hxe : (x == y) = false := by simp; omega
    have hne : (n == m) = false := by simp; omega
    have hnl : m ≤ n := by omega
    have bx : 0 ≤ x ∧ x ≤ 38654705664 := by omega
    have by_ : 0 ≤ y ∧ y ≤ 38654705664 := by omega
    clear FX FY
    skip
    go_wp2_with fail
    refine (HX.out _).mono ?_
    rintro e w4 ⟨rfl, rfl⟩
    go_wp2_with fail
    refine (HY.out _).mono ?_
    rintro e w5 ⟨rfl, rfl⟩
    go_wp2_with fail
    refine (khome_any x _ (by omega)).mono ?_
    rintro e w6 ⟨rfl, rfl⟩
    rw [HXH.out]
    go_wp2_with fail
    refine (khome_any y _ (by omega)).mono ?_
    rintro e w7 ⟨rfl, rfl⟩
    rw [HYH.out]
    go_wp2_with fail
    go_ret
    exact ⟨rfl, K1.out⟩
  · have hxy : x < y := by omega
    have hxe : (x == y) = false := by simp; omega
    have hne : (a == b) = false := by simp; omega
    have hne2 : (a != b) = true := by simp; omega
    have bx : 0 ≤ x ∧ x ≤ 38654705664 := by omega
    have by_ : 0 ≤ y ∧ y ≤ 38654705664 := by omega
    clear FX FY
    skip
    go_wp2_with fail
    refine (HX.out _).mono ?_
    rintro e w4 ⟨rfl, rfl⟩
    go_wp2_with fail
    refine (HY.out _).mono ?_
    rintro e w5 ⟨rfl, rfl⟩
    go_wp2_with fail
    refine (khome_any x _ (by omega)).mono ?_
    rintro e w6 ⟨rfl, rfl⟩
    rw [HXH.out]
    go_wp2_with fail
    refine (khome_any y _ (by omega)).mono ?_
    rintro e w7 ⟨rfl, rfl⟩
    rw [HYH.out]
    go_wp2_with fail
    go_ret
    exact ⟨rfl, K1.out⟩
  · have hxy : y ≤ x := by omega
    have hxe : (x == y) = false := by simp; omega
    have hne : (a == b) = false := by simp; omega
    have hne2 : (a != b) = true := by simp; omega
    have hle : b ≤ a := by omega
    have bx : 0 ≤ x ∧ x ≤ 38654705664 := by omega
    have by_ : 0 ≤ y ∧ y ≤ 38654705664 := by omega
    clear FX FY
    skip
    go_wp2_with fail
    refine (HX.out _).mono ?_
    rintro e w4 ⟨rfl, rfl⟩
    go_wp2_with fail
    refine (HY.out _).mono ?_
    rintro e w5 ⟨rfl, rfl⟩
    go_wp2_with fail
    refine (khome_any x _ (by omega)).mono ?_
    rintro e w6 ⟨rfl, rfl⟩
    rw [HXH.out]
    go_wp2_with fail
    refine (khome_any y _ (by omega)).mono ?_
    rintro e w7 ⟨rfl, rfl⟩
    rw [HYH.out]
    go_wp2_with fail
    go_ret
    exact ⟨rfl, K1.out⟩

set_option linter.unusedVariables false
set_option maxRecDepth 100000 in
theorem lifted (os : Os) (started : os.Started) (H : Type) (enc : TypeId × Value → H) :
    ReturnsInHanded {} Try.checked os 11 .any (Rows.kindHomesSpec.pre6 enc Try.prog Try.f11 Rows.kindHomesRow.domain false) (Rows.kindHomesSpec.post enc Try.prog Try.f11 false true false false) := by
  refine returnsInHanded_of_change (C := Try.checked) own started (by kernel_rfl) Try.func11
    (ChangeSpec.witness6 (enc := enc) (C := Try.checked) false ⟨#[], #[.int .i64 0, .int .i64 0, .int .i64 0, .int .i64 0], []⟩ 8 (by kernel_rfl) (by kernel_rfl) (by kernel_rfl) (by kernel_rfl)) ?_
  intro W base args ds gs before hval0 hW hcnd _
  have hval : ∀ (j : Nat) t v, Try.f11.params[j]? = some t → args[j]? = some v → Value.okWide Try.prog W .any base t v := hval0
  have hW' := hW
  obtain ⟨p, q, hA0, hV, rfl, hfz, hnd⟩ := hW
  have hA : DataW.TrodAll enc Try.prog W 0 (fun _ => true) true Try.f11.params.toList args.toList ds p := hA0
  rw [Try.params11] at hA hval
  obtain ⟨v0, vs0, d0, ds0, p0, q0, hargs, rfl, rfl, h0, r0⟩ := trodAll_cons hA
  obtain ⟨v1, vs1, d1, ds1, p1, q1, rfl, rfl, rfl, h1, r1⟩ := trodAll_cons r0
  obtain ⟨v2, vs2, d2, ds2, p2, q2, rfl, rfl, rfl, h2, r2⟩ := trodAll_cons r1
  obtain ⟨v3, vs3, d3, ds3, p3, q3, rfl, rfl, rfl, h3, r3⟩ := trodAll_cons r2
  obtain ⟨rfl, rfl, rfl⟩ := trodAll_nil r3
  obtain rfl : args = #[v0, v1, v2, v3] := by cases args; simp_all
  obtain ⟨rfl, rfl⟩ := trodVars_none hV
  obtain ⟨a0, rfl, rfl, rfl, w0⟩ := open_int Try.underlying3 (hval 0 3 v0 rfl rfl) h0
  obtain ⟨a1, rfl, rfl, rfl, w1⟩ := open_int Try.underlying3 (hval 1 3 v1 rfl rfl) h1
  obtain ⟨a2, rfl, rfl, rfl, w2⟩ := open_int Try.underlying2 (hval 2 2 v2 rfl rfl) h2
  obtain ⟨a3, rfl, rfl, rfl, w3⟩ := open_int Try.underlying2 (hval 3 2 v3 rfl rfl) h3
  clear hA0 hval0
  refine (walk W a0 w0 a1 w1 a2 w2 a3 w3).mono fun e W' ⟨he, hk⟩ => ?_
  subst he
  have bel := Keep.below hk
  exact ⟨_, rfl, _, _, _, [], _, [], hW', trodAll_mk1 (shut_bool Try.underlying4 _), (trodAll_cons_mk (shut_int Try.underlying3 w0) (trodAll_cons_mk (shut_int Try.underlying3 w1) (trodAll_cons_mk (shut_int Try.underlying2 w2) (trodAll_cons_mk (shut_int Try.underlying2 w3) trodAll_mk0)))), rfl, bel.frame _, fun h => by cases h⟩

theorem over : Rows.kindHomesRow.holds Try.pinned (OpenSpec.ofChange Rows.kindHomesSpec) :=
  OpenClaim.holds_of_wide 11 Try.f11 rfl rfl rfl rfl rfl rfl rfl ⟨rfl, rfl, rfl, rfl, rfl⟩ rfl rfl rfl rfl rfl (by kernel_rfl) Try.func11 (by kernel_rfl)
    (of_decide_eq_true (by kernel_rfl)) (by unfold Func.isWrapper; rw [if_neg (of_decide_eq_false (by kernel_rfl))]; exact ⟨rfl, rfl⟩)
    (fun os started H enc _ => lifted os started H enc)

/-- The statement. -/
theorem proved : Rows.KindHomesSaid := over
#print axioms proved
end Go.Proofs.Ytgbogbjifpijkaa.kindHomes
