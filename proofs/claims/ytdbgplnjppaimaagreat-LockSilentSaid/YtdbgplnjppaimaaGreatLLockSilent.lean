/- LockSilent: the law returns true and changes nothing that was there. No conditions. -/
import Derived.Test.YtdbgplnjppaimaaGreatLaw13
import Derived.Test.YtdbgplnjppaimaaGreatRows
import Derived.WalkKit
import Derived.ProofKit
import Derived.OpenShut
import Derived.ShutString
import Derived.ChangeOld
import Derived.Below
namespace Go.Proofs.YtdbgplnjppaimaaGreat.lockSilent
open Go Go.ChangeShapes Go.WideShapes Go.ChangeAt Go.RowKit
open Go.ChangeMaps (open_string shut_string)

theorem own : ownKnob Tryz.prog.godebug = none := by kernel_rfl
theorem laidOut : laidOutB Tryz.prog = true := by kernel_rfl

open Go.Proofs Go.RowKit Go.Maps Go.Sort Go.Shelf
theorem only4 {cn : Int → Int} (h : ∀ y, cn y = if y = 4 then 1 else 0) : ∀ y, y ∈ [(4 : Int)] ↔ 1 ≤ cn y := fun y => by
  rw [h, List.mem_singleton]
  by_cases e : y = 4
  · simp [e]
  · simp [e]
/-- How long it was silent, after i ticks; a word before the wd-th. -/
def silent (wd : Int) (i : Nat) : Int := if 0 ≤ wd ∧ wd < i then (i : Int) - wd else i
set_option maxHeartbeats 8000000 in
set_option maxRecDepth 8000 in
theorem walk (w : World) (n0 : Int) (hn0 : (Lit.int .i64 n0).wf = true) (wd : Int) (hwd : (Lit.int .i64 wd).wf = true) :
    Calls Tryz.prog 8 #[.int .i64 n0, .int .i64 wd] w fun e w' => e = .returned (.bool true) ∧ Keep NoF w w' := by
  have hb := bounds_i64 hn0
  have hb2 := bounds_i64 hwd
  clear hn0 hwd
  have hk4 : KI 4 := ki_small (by omega)
  go_enter Tryz.func8, Tryz.ntmps8
  go_wp2_with fail
  refine (begun13_any w).mono ?_
  rintro e w1 ⟨rfl, hk⟩
  have K1 := Lib.hid hk
  clear hk
  by_cases h1 : n0 < 0
  · have h1d : decide (n0 < 0) = true := by simp [h1]
    go_wp2_with fail
    go_ret
    exact ⟨rfl, K1.out⟩
  · have h1d : decide (n0 < 0) = false := by simp [h1]
    by_cases h2 : 20 < n0
    · have h2d : decide (20 < n0) = true := by simp [h2]
      go_wp2_with fail
      go_ret
      exact ⟨rfl, K1.out⟩
    · have h2d : decide (20 < n0) = false := by simp [h2]
      obtain ⟨n, rfl⟩ : ∃ n : Nat, n0 = n := ⟨n0.toNat, by omega⟩
      have hn20 : n ≤ 20 := by omega
      go_wp2_with fail
      refine (newLock_any w1).mono ?_
      rintro e w2 hN
      obtain ⟨p, rfl, hS⟩ := lst_new K1.out hN
      have S2 := Lib.hid hS
      clear hN hS
      go_wp2_with fail
      refine (lst_took S2.out 4 hk4 (by decide) (by omega)).mono ?_
      rintro e w3 ⟨rfl, hS⟩
      have S3 := Lib.hid hS
      clear hS S2
      go_wp2_with fail
      go_loopw [7, 8] (fun qv iv wr => ∃ (i nb : Nat) (cn : Int → Int) (ps : Int → List PutV) (ag : Int → Int), i ≤ n ∧ nb ≤ 1 + 2 * i ∧ iv = .int .i64 i ∧ qv = .int .i64 (silent wd i) ∧ LSt w wr p nb cn ps ag ∧ (∀ y, cn y = if y = 4 then 1 else 0) ∧ ag 4 = silent wd i) (fun _ iv _ => n - (intOf iv).toNat)
      case atStart => exact ⟨0, 1, _, _, _, Nat.zero_le _, Nat.le_refl _, rfl, by unfold silent; rw [if_neg (by omega)]; rfl, S3.out, fun y => rfl, by unfold silent; rw [if_neg (by omega)]; rfl⟩
      case round =>
        obtain ⟨i, nb, cn, ps, ag, hi, hnb, rfl, rfl, hS, hc, ha⟩ := hrel
        have HS := Lib.hid hS; have HC := Lib.hid hc; have HA := Lib.hid ha
        clear hS hc ha
        have hsl : 0 ≤ silent wd i ∧ silent wd i ≤ 20 := by unfold silent; split <;> omega
        by_cases hlt : i < n
        · have hlt2 : (i : Int) < n := by omega
          have hlt3 : decide (i < n) = true := by simp [hlt]
          by_cases he : (i : Int) = wd
          · have hed : ((i : Int) == wd) = true := by simp [he]
            have hed2 : decide ((i : Int) = wd) = true := by simp [he]
            have h01 : IntKind.i64.wrap ((0 : Int) + 1) = 1 := rfl
            have hnx : silent wd (i + 1) = 1 := by unfold silent; rw [if_pos ⟨by omega, by omega⟩]; omega
            have HNX := Lib.hid hnx
            go_wp2_with fail
            refine (lst_touch HS.out 4 hk4 (by rw [HC.out]; decide) (by omega)).mono ?_
            rintro e w4 ⟨rfl, hS⟩
            have S4 := Lib.hid hS
            clear hS
            go_wp2_with fail
            refine (lst_tick S4.out (K := [4]) (by decide) (only4 HC.out) (by simp; omega)).mono ?_
            rintro e w5 ⟨v, rfl, ⟨a5, c5, rfl, _, _⟩, hS⟩
            have S5 := Lib.hid hS
            have hfl : ([(4 : Int)].filter fun x => decide (6 ≤ agUp ag 4 x + 1)).length = 0 := rfl
            rw [hfl]
            clear hS hfl
            go_wp2_with fail
            go_roundw
            case rel => exact ⟨i + 1, nb + 2, _, _, _, by omega, by omega, by go_num, by rw [HNX.out], S5.out, HC.out, by rw [HNX.out]; rfl⟩
            case measure => simp [intOf]; omega
          · have hed : ((i : Int) == wd) = false := by simp [he]
            have hed2 : decide ((i : Int) = wd) = false := by simp [he]
            have hnx : silent wd (i + 1) = silent wd i + 1 := by
              unfold silent
              by_cases hq : 0 ≤ wd ∧ wd < i
              · rw [if_pos hq, if_pos ⟨hq.1, by omega⟩]; omega
              · rw [if_neg hq, if_neg (by omega)]; omega
            have HNX := Lib.hid hnx
            obtain ⟨s, hs⟩ : ∃ s, silent wd i = s := ⟨_, rfl⟩
            rw [hs] at hsl hnx ⊢
            have HS0 := Lib.hid hs
            have hw1 : IntKind.i64.wrap (s + 1) = s + 1 := IntWalk.i64_in _ (by omega)
            clear hs hnx
            go_wp2_with fail
            refine (lst_tick HS.out (K := [4]) (by decide) (only4 HC.out) (by simp; omega)).mono ?_
            rintro e w5 ⟨v, rfl, ⟨a5, c5, rfl, _, _⟩, hS⟩
            have S5 := Lib.hid hS
            have hag : ag 4 = s := by rw [HA.out, HS0.out]
            have hfl : ([(4 : Int)].filter fun x => decide (6 ≤ ag x + 1)).length = if 6 ≤ s + 1 then 1 else 0 := by
              simp only [List.filter_cons, List.filter_nil, hag]
              by_cases h6 : 6 ≤ s + 1
              · simp [h6]
              · simp [h6]
            rw [hfl]
            have HAG := Lib.hid hag
            clear hS hfl hag
            by_cases h6 : 6 ≤ s + 1
            · have h6d : decide (6 ≤ s + 1) = true := by simp [h6]
              rw [if_pos h6]
              go_wp2_with fail
              go_roundw
              case rel => exact ⟨i + 1, nb + 1, _, _, _, by omega, by omega, by go_num, by rw [HNX.out, HS0.out], S5.out, HC.out, by show ag 4 + 1 = _; rw [HNX.out, HAG.out, HS0.out]⟩
              case measure => simp [intOf]; omega
            · have h6d : decide (6 ≤ s + 1) = false := by simp [h6]
              rw [if_neg h6]
              go_wp2_with fail
              go_roundw
              case rel => exact ⟨i + 1, nb + 1, _, _, _, by omega, by omega, by go_num, by rw [HNX.out, HS0.out], S5.out, HC.out, by show ag 4 + 1 = _; rw [HNX.out, HAG.out, HS0.out]⟩
              case measure => simp [intOf]; omega
        · have hlt2 : ¬ (i : Int) < n := by omega
          have hlt3 : decide (i < n) = false := by simp [hlt]
          have KP := Lib.hid HS.out.kp
          go_wp2_with fail
          refine (lst_N HS.out 4 hk4).mono ?_
          rintro e w' ⟨rfl, hw⟩
          obtain rfl : wr = w' := hw.symm
          have hc4 : cn 4 = 1 := by rw [HC.out]; rfl
          rw [hc4]
          go_wp2_with fail
          go_ret
          exact ⟨rfl, KP.out⟩

set_option linter.unusedVariables false
set_option maxRecDepth 100000 in
theorem lifted (os : Os) (started : os.Started) (H : Type) (enc : TypeId × Value → H) :
    ReturnsInHanded {} Tryz.checked os 8 .any (Rows.lockSilentSpec.pre6 enc Tryz.prog Tryz.f8 Rows.lockSilentRow.domain false) (Rows.lockSilentSpec.post enc Tryz.prog Tryz.f8 false true false false) := by
  refine returnsInHanded_of_change (C := Tryz.checked) own started (by kernel_rfl) Tryz.func8
    (ChangeSpec.witness6 (enc := enc) (C := Tryz.checked) false ⟨#[], #[.int .i64 0, .int .i64 0], []⟩ 8 (by kernel_rfl) (by kernel_rfl) (by kernel_rfl) (by kernel_rfl)) ?_
  intro W base args ds gs before hval0 hW hcnd _
  have hval : ∀ (j : Nat) t v, Tryz.f8.params[j]? = some t → args[j]? = some v → Value.okWide Tryz.prog W .any base t v := hval0
  have hW' := hW
  obtain ⟨p, q, hA0, hV, rfl, hfz, hnd⟩ := hW
  have hA : DataW.TrodAll enc Tryz.prog W 0 (fun _ => true) true Tryz.f8.params.toList args.toList ds p := hA0
  rw [Tryz.params8] at hA hval
  obtain ⟨v0, vs0, d0, ds0, p0, q0, hargs, rfl, rfl, h0, r0⟩ := trodAll_cons hA
  obtain ⟨v1, vs1, d1, ds1, p1, q1, rfl, rfl, rfl, h1, r1⟩ := trodAll_cons r0
  obtain ⟨rfl, rfl, rfl⟩ := trodAll_nil r1
  obtain rfl : args = #[v0, v1] := by cases args; simp_all
  obtain ⟨rfl, rfl⟩ := trodVars_none hV
  obtain ⟨a0, rfl, rfl, rfl, w0⟩ := open_int Tryz.underlying3 (hval 0 3 v0 rfl rfl) h0
  obtain ⟨a1, rfl, rfl, rfl, w1⟩ := open_int Tryz.underlying3 (hval 1 3 v1 rfl rfl) h1
  clear hA0 hval0
  refine (walk W a0 w0 a1 w1).mono fun e W' ⟨he, hk⟩ => ?_
  subst he
  have bel := Keep.below hk
  exact ⟨_, rfl, _, _, _, [], _, [], hW', trodAll_mk1 (shut_bool Tryz.underlying4 _), (trodAll_cons_mk (shut_int Tryz.underlying3 w0) (trodAll_cons_mk (shut_int Tryz.underlying3 w1) trodAll_mk0)), rfl, bel.frame _, fun h => by cases h⟩

theorem over : Rows.lockSilentRow.holds Tryz.pinned (OpenSpec.ofChange Rows.lockSilentSpec) :=
  OpenClaim.holds_of_wide 8 Tryz.f8 rfl rfl rfl rfl rfl rfl rfl ⟨rfl, rfl, rfl, rfl, rfl⟩ rfl rfl rfl rfl rfl (by kernel_rfl) Tryz.func8 (by kernel_rfl)
    (of_decide_eq_true (by kernel_rfl)) (by unfold Func.isWrapper; rw [if_neg (of_decide_eq_false (by kernel_rfl))]; exact ⟨rfl, rfl⟩)
    (fun os started H enc _ => lifted os started H enc)

/-- The statement. -/
theorem proved : Rows.LockSilentSaid := over
#print axioms proved
end Go.Proofs.YtdbgplnjppaimaaGreat.lockSilent
