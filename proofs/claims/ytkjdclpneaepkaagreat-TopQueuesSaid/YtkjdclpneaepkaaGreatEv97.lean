/- TopQueues: what a queue holds (bodies), whether texts are the same (same); small numbers, texts of numbers. -/
import Derived.Test.YtkjdclpneaepkaaGreatEv96
set_option linter.unusedVariables false
open Go Go.Ev Go.Proofs Go.RowKit
namespace Go.Proofs.YtkjdclpneaepkaaGreat.Qu
/-! ### texts of numbers, small numbers -/
noncomputable def txB (v : Nat) : Bool := Rv.rec (motive := fun _ => Bool) (fun _ => false) (fun a _ _ => eqA a (.s [Nat.add 48 v])) (cY 18 (.cn (.i .i64 (.ofNat v)) .nl) .lf .e)
theorem tx10 : (txB 0 && (txB 1 && (txB 2 && (txB 3 && (txB 4 && (txB 5 && (txB 6 && (txB 7 && (txB 8 && txB 9))))))))) = true := by kernel_rfl
theorem tx_all : ∀ j, j < 10 → txB j = true := fun j hj => by
  obtain ⟨h0, q⟩ := and_ok tx10
  obtain ⟨h1, q⟩ := and_ok q
  obtain ⟨h2, q⟩ := and_ok q
  obtain ⟨h3, q⟩ := and_ok q
  obtain ⟨h4, q⟩ := and_ok q
  obtain ⟨h5, q⟩ := and_ok q
  obtain ⟨h6, q⟩ := and_ok q
  obtain ⟨h7, q⟩ := and_ok q
  obtain ⟨h8, h9⟩ := and_ok q
  match j, hj with
  | 0, _ => exact h0
  | 1, _ => exact h1
  | 2, _ => exact h2
  | 3, _ => exact h3
  | 4, _ => exact h4
  | 5, _ => exact h5
  | 6, _ => exact h6
  | 7, _ => exact h7
  | 8, _ => exact h8
  | 9, _ => exact h9
/-- The text of i. -/
def tx (i : Nat) : ByteArray := bsOf [48 + i]
theorem text_q (i : Nat) (hi : i < 10) (w : World) : Calls Tryz.prog 18 #[.int .i64 (i : Int)] w fun e w' => e = .returned (.string (tx i)) ∧ Keep NoF w w' := by
  have h := tx_all i hi
  unfold txB at h
  cases e : cY 18 (.cn (.i .i64 (.ofNat i)) .nl) .lf .e with
  | bad n => rw [e] at h; cases h
  | ok a h1 n1 =>
    rw [e] at h
    refine (callY (vs := [.int .i64 (i : Int)]) (H00 w) (show Vs (fun _ => none) (.cn (.i .i64 (.ofNat i)) .nl) [.int .i64 (i : Int)] from ⟨_, _, rfl, rfl, rfl⟩) e).mono fun x w' ⟨ρ', v, k1, k2, k3, k4⟩ => ⟨?_, Stp.keepN k4 fun g ⟨id, b, t, q, _⟩ => by rw [getP_lf] at q; cases q⟩
    have k2 : v = .string (bsOf [Nat.add 48 i]) := (eqA_V (ρ := ρ') a (.s [Nat.add 48 i]) h).1 v k2
    rw [k1, k2]; rfl
/-- A number below eight. -/
def sm (x : Int) : Nat := (x.tmod 8).natAbs
theorem sm_lt (x : Int) : sm x < 8 := by
  have h1 : x.tmod 8 < 8 := Int.tmod_lt_of_pos x (by omega)
  have h2 : -(8 : Int) < x.tmod 8 := by have := Int.tmod_lt_of_pos (-x) (b := (8 : Int)) (by omega); rw [Int.neg_tmod] at this; omega
  unfold sm; omega
theorem small8 (x : Int) (hx : (Lit.int .i64 x).wf = true) (w : World) : Calls Tryz.prog 26 #[.int .i64 x, .int .i64 8] w fun e w' => e = .returned (.int .i64 (sm x : Nat)) ∧ w' = w := by
  have hb := bounds_i64 hx
  have h1 : x.tmod 8 < 8 := Int.tmod_lt_of_pos x (by omega)
  have h2 : -(8 : Int) < x.tmod 8 := by have := Int.tmod_lt_of_pos (-x) (b := (8 : Int)) (by omega); rw [Int.neg_tmod] at this; omega
  obtain ⟨r, hr⟩ : ∃ r, sm x = r := ⟨_, rfl⟩
  rw [hr]
  unfold sm at hr
  obtain ⟨y, hy⟩ : ∃ y, x.tmod 8 = y := ⟨_, rfl⟩
  rw [hy] at h1 h2 hr
  by_cases hn : y < 0
  · have hw : IntKind.i64.wrap (-y) = (r : Int) := by rw [IntWalk.i64_in _ (by omega)]; omega
    clear hr h1 h2
    go_enter Tryz.func26, Tryz.ntmps26
    go_wp2_with fail
    go_ret
    exact ⟨rfl, rfl⟩
  · obtain rfl : y = (r : Int) := by omega
    clear hr h1 h2
    go_enter Tryz.func26, Tryz.ntmps26
    go_wp2_with fail
    go_ret
    exact ⟨rfl, rfl⟩

/-! ### the same texts? -/
/-- Texts in a slice. -/
def SlT (w : World) (v : Value) (xs : List ByteArray) : Prop := ∃ ao cp, v = .slice ao xs.length cp ∧ ∀ i (h : i < xs.length), ∃ g off, ao = some ⟨g, off, none⟩ ∧ w.cell? ⟨g, off + i, none⟩ = some (.string xs[i])
theorem SlT.keep {w w' : World} {v : Value} {xs : List ByteArray} (h : SlT w v xs) (k : Keep NoF w w') : SlT w' v xs := by
  obtain ⟨ao, cp, h1, h2⟩ := h
  refine ⟨ao, cp, h1, fun i hi => ?_⟩
  obtain ⟨g, off, e1, e2⟩ := h2 i hi
  exact ⟨g, off, e1, k.cell' e2 (fun f => f)⟩
set_option maxHeartbeats 1000000 in
theorem same_q (v1 v2 : Value) (xs : List ByteArray) (w : World) (hl : xs.length ≤ 1000) (h1 : SlT w v1 xs) (h2 : SlT w v2 xs) : Calls Tryz.prog 22 #[v1, v2] w fun e w' => e = .returned (.bool true) ∧ Keep NoF w w' := by
  obtain ⟨a1, c1, rfl, h1⟩ := h1
  obtain ⟨a2, c2, rfl, h2⟩ := h2
  have H1 := Lib.hid h1; have H2 := Lib.hid h2
  obtain ⟨n, hn⟩ : ∃ n, xs.length = n := ⟨_, rfl⟩
  rw [hn] at hl ⊢
  have HN := Lib.hid hn
  clear h1 h2 hn
  go_enter Tryz.func22, Tryz.ntmps22
  go_wp2_with fail
  go_loopw [5] (fun iv wr => ∃ i : Nat, i ≤ n ∧ iv = .int .i64 (i : Int) ∧ Keep NoF w wr) (fun iv _ => n - (intOf iv).toNat)
  case atStart => exact ⟨0, Nat.zero_le _, rfl, Keep.refl _ _⟩
  case round =>
    obtain ⟨i, hi, rfl, hk⟩ := hrel
    have K := Lib.hid hk
    clear hk
    by_cases hlt : i < n
    · have hlt2 : (i : Int) < n := by omega
      obtain ⟨g1, o1, rfl, e1⟩ := H1.out i (by rw [HN.out]; exact hlt)
      obtain ⟨g2, o2, rfl, e2⟩ := H2.out i (by rw [HN.out]; exact hlt)
      have q1 := K.out.cell' e1 (fun f => f)
      have q2 := K.out.cell' e2 (fun f => f)
      obtain ⟨s, hs⟩ : ∃ s, xs[i]'(by rw [HN.out]; exact hlt) = s := ⟨_, rfl⟩
      rw [hs] at q1 q2
      have hne : (s.toList != s.toList) = false := by simp
      clear hs e1 e2
      go_wp2_with fail
      go_quiet (fail)
      go_wp2_with fail
      go_roundw
      case rel => exact ⟨i + 1, by omega, by go_num, K.out.drewN _⟩
      case measure => simp [intOf]; omega
    · obtain rfl : i = n := by omega
      have hlt2 : ¬ (i : Int) < i := by omega
      go_wp2_with fail
      go_ret
      exact ⟨rfl, K.out⟩
end Go.Proofs.YtkjdclpneaepkaaGreat.Qu
