/- Quick ways of kind.Home, kind.Tid, kind.Broker. -/
import Derived.Test.YtkjdclpneaepkaaGreatEv70
import Derived.IntWalk
set_option linter.unusedVariables false
open Go Go.RowKit
namespace Go.Proofs.YtkjdclpneaepkaaGreat
def brokerB (n : Int) : Bool := decide (1 ≤ n) && decide (n ≤ 8)
def homeOf (t : Int) : Int := if 1 ≤ t / 4294967296 ∧ t / 4294967296 ≤ 8 ∧ t % 4294967296 ≠ 0 then t / 4294967296 else 0
def tidB (t : Int) : Bool := decide (0 < homeOf t)
theorem tdiv_low (t : Int) (h : t < 4294967296) : t.tdiv 4294967296 < 1 := by
  by_cases h0 : 0 ≤ t
  · rw [Int.tdiv_eq_ediv_of_nonneg h0]; omega
  · have : t.tdiv 4294967296 ≤ 0 := by
      have h1 : t = -(-t) := by omega
      rw [h1, Int.neg_tdiv, Int.tdiv_eq_ediv_of_nonneg (by omega)]
      omega
    omega
theorem tdiv_base (t : Int) (h : 4294967296 ≤ t) : t.tdiv 4294967296 = t / 4294967296 := Int.tdiv_eq_ediv_of_nonneg (by omega)
theorem tmod_base (t : Int) (h : 4294967296 ≤ t) : t.tmod 4294967296 = t % 4294967296 := Int.tmod_eq_emod_of_nonneg (by omega)
set_option maxHeartbeats 400000 in
theorem khome_any (t : Int) (w : World) (ht : -9223372036854775808 ≤ t ∧ t ≤ 9223372036854775807) :
    Calls Tryz.prog 40 #[.int .i64 t] w fun e w' => e = .returned (.int .i64 (homeOf t)) ∧ w' = w := by
  by_cases h0 : t < 4294967296
  · have e : homeOf t = 0 := by unfold homeOf; rw [if_neg (by omega)]
    have hd := tdiv_low t h0
    have hdb : -9223372036854775808 ≤ t.tdiv 4294967296 ∧ t.tdiv 4294967296 ≤ 9223372036854775807 := by
      refine ⟨?_, by omega⟩
      by_cases h1 : 0 ≤ t
      · rw [Int.tdiv_eq_ediv_of_nonneg h1]; omega
      · have h2 : t = -(-t) := by omega
        rw [h2, Int.neg_tdiv, Int.tdiv_eq_ediv_of_nonneg (by omega)]
        omega
    rw [e]
    clear e
    go_enter Tryz.func40, Tryz.ntmps40
    go_wp2_with fail
    go_ret
    exact ⟨rfl, rfl⟩
  · have hd := tdiv_base t (by omega)
    have hm := tmod_base t (by omega)
    obtain ⟨q, hq⟩ : ∃ q, t / 4294967296 = q := ⟨_, rfl⟩
    obtain ⟨r, hr⟩ : ∃ r, t % 4294967296 = r := ⟨_, rfl⟩
    have hq1 : 1 ≤ q ∧ q < 4294967296 := by omega
    have hh : homeOf t = if 1 ≤ q ∧ q ≤ 8 ∧ r ≠ 0 then q else 0 := by unfold homeOf; rw [hq, hr]
    rw [hq] at hd
    rw [hr] at hm
    rw [hh]
    clear hh hq hr h0
    by_cases h8 : 8 < q
    · rw [if_neg (by omega)]
      go_enter Tryz.func40, Tryz.ntmps40
      go_wp2_with fail
      go_ret
      exact ⟨rfl, rfl⟩
    · have h9 : q ≤ 8 := by omega
      clear h8
      by_cases h0 : r = 0
      · subst h0
        rw [if_neg (by omega)]
        go_enter Tryz.func40, Tryz.ntmps40
        go_wp2_with fail
        go_ret
        exact ⟨rfl, rfl⟩
      · rw [if_pos ⟨hq1.1, h9, h0⟩]
        have h0b : (r == 0) = false := by simp; exact h0
        clear h0
        go_enter Tryz.func40, Tryz.ntmps40
        go_wp2_with fail
        go_ret
        exact ⟨rfl, rfl⟩
set_option maxHeartbeats 400000 in
theorem ktid_any (t : Int) (w : World) (ht : -9223372036854775808 ≤ t ∧ t ≤ 9223372036854775807) :
    Calls Tryz.prog 123 #[.int .i64 t] w fun e w' => e = .returned (.bool (tidB t)) ∧ w' = w := by
  rw [tidB]
  go_enter Tryz.func123, Tryz.ntmps123
  go_wp2_with fail
  refine (khome_any t w ht).mono ?_
  rintro e w1 ⟨rfl, rfl⟩
  go_wp2_with fail
  go_ret
  exact ⟨rfl, rfl⟩
set_option maxHeartbeats 400000 in
theorem kbroker_any (n : Int) (w : World) :
    Calls Tryz.prog 84 #[.int .i64 n] w fun e w' => e = .returned (.bool (brokerB n)) ∧ w' = w := by
  by_cases h : 1 ≤ n
  · have e : brokerB n = decide (n ≤ 8) := by simp [brokerB, h]
    have h0 : 0 < n := by omega
    rw [e]
    clear e
    go_enter Tryz.func84, Tryz.ntmps84
    go_wp2_with fail
    go_ret
    exact ⟨rfl, rfl⟩
  · have e : brokerB n = false := by simp [brokerB]; omega
    have h0 : n ≤ 0 := by omega
    have h1 : n < 1 := by omega
    rw [e]
    clear e h
    go_enter Tryz.func84, Tryz.ntmps84
    go_wp2_with fail
    go_ret
    exact ⟨rfl, rfl⟩

end Go.Proofs.YtkjdclpneaepkaaGreat
namespace Go.Ev
open Go.Proofs.YtkjdclpneaepkaaGreat
noncomputable section
/-- The home of a number. -/
def homeK (t : Nat) (k : Nat → Rv) : Rv := force (Nat.div t 4294967296) fun b => Bool.rec (motive := fun _ => Rv) (k 0) (k b) (Nat.ble 1 b && (Nat.ble b 8 && Bool.not (Nat.beq (Nat.mod t 4294967296) 0)))
def hHome : Hook := fun a h nx => cnK a fun t a => natK .i64 t fun t => nlK a (Bool.rec (motive := fun _ => Rv) (.bad 153) (homeK t fun b => .ok (.i .i64 (.ofNat b)) h nx) (Nat.blt t 9223372036854775808))
def hTid : Hook := fun a h nx => cnK a fun t a => natK .i64 t fun t => nlK a (Bool.rec (motive := fun _ => Rv) (.bad 153) (homeK t fun b => .ok (.b (Nat.blt 0 b)) h nx) (Nat.blt t 9223372036854775808))
end
theorem homeK_eq (t : Nat) (k : Nat → Rv) : homeK t k = k (homeOf (t : Int)).toNat ∧ 0 ≤ homeOf (t : Int) := by
  unfold homeK homeOf
  rw [force_eq]
  have h1 : (t : Int) / 4294967296 = ((t / 4294967296 : Nat) : Int) := by omega
  have h2 : (t : Int) % 4294967296 = ((t % 4294967296 : Nat) : Int) := by omega
  rw [h1, h2]
  show (Bool.rec (k 0) (k (t / 4294967296)) (Nat.ble 1 (t / 4294967296) && (Nat.ble (t / 4294967296) 8 && Bool.not (Nat.beq (t % 4294967296) 0))) : Rv) = _ ∧ _
  cases e1 : Nat.ble 1 (t / 4294967296) with
  | false =>
    have : ¬ 1 ≤ t / 4294967296 := fun q => by rw [Nat.ble_eq_true_of_le q] at e1; cases e1
    rw [if_neg (by omega)]; exact ⟨rfl, by omega⟩
  | true =>
    have q1 := Nat.le_of_ble_eq_true e1
    cases e2 : Nat.ble (t / 4294967296) 8 with
    | false =>
      have : ¬ t / 4294967296 ≤ 8 := fun q => by rw [Nat.ble_eq_true_of_le q] at e2; cases e2
      rw [if_neg (by omega)]; exact ⟨rfl, by omega⟩
    | true =>
      have q2 := Nat.le_of_ble_eq_true e2
      cases e3 : Nat.beq (t % 4294967296) 0 with
      | true =>
        have := Nat.eq_of_beq_eq_true e3
        rw [if_neg (by omega)]; exact ⟨rfl, by omega⟩
      | false =>
        have : t % 4294967296 ≠ 0 := fun q => by rw [q] at e3; cases e3
        rw [if_pos (by omega)]; exact ⟨by show k _ = k _; congr 1, by omega⟩
end Go.Ev
namespace Go.Proofs.YtkjdclpneaepkaaGreat
open Go.Ev
theorem hook_home : HookAt Tryz.prog 40 hHome := fun args h nx av h' nx' ρ w vs H hv e => by
  unfold hHome at e
  obtain ⟨p, a1, q1, e1⟩ := cnK_ok e
  obtain ⟨n, q2, e2⟩ := natK_ok e1
  obtain ⟨q3, e3⟩ := nlK_ok e2
  clear e e1 e2
  subst q2 q3
  subst q1
  obtain ⟨v1, r1, rfl, h1, h0⟩ := hv
  cases (show r1 = [] from h0)
  cases (show v1 = .int .i64 (Int.ofNat n) from h1)
  cases q : Nat.blt n 9223372036854775808 with
  | false => rw [q] at e3; cases e3
  | true =>
    rw [q] at e3
    have hn := Nat.le_of_ble_eq_true q
    obtain ⟨k1, k2⟩ := homeK_eq n fun b => .ok (.i .i64 (.ofNat b)) h nx
    have e3 : homeK n (fun b => .ok (.i .i64 (.ofNat b)) h nx) = .ok av h' nx' := e3
    rw [k1] at e3
    obtain ⟨rfl, rfl, rfl⟩ := ok3 e3
    refine Calls.mono (khome_any (n : Int) w (by omega)) fun x w' ⟨hx, hw⟩ => ?_
    subst hx hw
    exact hook_same H (by show _ = Value.int .i64 _; congr 1; exact (Int.toNat_of_nonneg k2).symm)
theorem hook_tid : HookAt Tryz.prog 123 hTid := fun args h nx av h' nx' ρ w vs H hv e => by
  unfold hTid at e
  obtain ⟨p, a1, q1, e1⟩ := cnK_ok e
  obtain ⟨n, q2, e2⟩ := natK_ok e1
  obtain ⟨q3, e3⟩ := nlK_ok e2
  clear e e1 e2
  subst q2 q3
  subst q1
  obtain ⟨v1, r1, rfl, h1, h0⟩ := hv
  cases (show r1 = [] from h0)
  cases (show v1 = .int .i64 (Int.ofNat n) from h1)
  cases q : Nat.blt n 9223372036854775808 with
  | false => rw [q] at e3; cases e3
  | true =>
    rw [q] at e3
    have hn := Nat.le_of_ble_eq_true q
    obtain ⟨k1, k2⟩ := homeK_eq n fun b => .ok (.b (Nat.blt 0 b)) h nx
    have e3 : homeK n (fun b => .ok (.b (Nat.blt 0 b)) h nx) = .ok av h' nx' := e3
    rw [k1] at e3
    obtain ⟨rfl, rfl, rfl⟩ := ok3 e3
    refine Calls.mono (ktid_any (n : Int) w (by omega)) fun x w' ⟨hx, hw⟩ => ?_
    subst hx hw
    refine hook_same H ?_
    show Value.bool (tidB n) = Value.bool _
    congr 1
    unfold tidB
    rw [Bool.eq_iff_iff, decide_eq_true_iff]
    exact ⟨fun q => Nat.ble_eq_true_of_le (by omega), fun q => by have := Nat.le_of_ble_eq_true q; omega⟩
end Go.Proofs.YtkjdclpneaepkaaGreat
