/- What was put is read: plain bytes. -/
import Derived.Test.YtdbgplnjppaimaaGreatRows1
open Go Go.RowKit
namespace Go.Proofs.YtdbgplnjppaimaaGreat

theorem leNat_leBytes (k m : Nat) : leNat (leBytes k m) = m % 256 ^ k := by
  induction k generalizing m with
  | zero => simp [leNat, leBytes, Nat.mod_one]
  | succ k ih =>
    rw [leBytes, leNat, ih, UInt8.toNat_ofNat', show (2 : Nat) ^ 8 = 256 from rfl, Nat.pow_succ (n := 256), Nat.mul_comm (256 ^ k), Nat.mod_mul (x := m) (a := 256)]

theorem rdN_le (k m : Nat) (r : List UInt8) : rdN k (some (leBytes k m ++ r)) = m % 256 ^ k := by
  have hl := leBytes_length k m
  have ht : (leBytes k m ++ r).take k = leBytes k m := by rw [List.take_append_of_le_length (by omega), List.take_of_length_le (by omega)]
  simp only [rdN]
  rw [if_pos (by simp [hl]), ht, leNat_leBytes]
theorem rdS_le (k : Nat) (a r : List UInt8) (ha : a.length = k) : rdS k (some (a ++ r)) = some r := by
  simp only [rdS]
  rw [if_pos (by simp [ha]), ← ha, List.drop_left]

theorem rd_long (n : Int) (hn : -9223372036854775808 ≤ n ∧ n ≤ 9223372036854775807) (r : List UInt8) :
    wrap64 ((rdN 8 (some (longB n ++ r)) : Nat) : Int) = n ∧ rdS 8 (some (longB n ++ r)) = some r := by
  refine ⟨?_, rdS_le 8 _ _ (longB_length n)⟩
  rw [longB, rdN_le]
  have h : ((n % 18446744073709551616).toNat % 256 ^ 8 : Nat) = (n % 18446744073709551616).toNat := Nat.mod_eq_of_lt (by omega)
  rw [h, wrap64]
  omega
theorem rd_small (n : Int) (r : List UInt8) : rdN 2 (some (smallB n ++ r)) = (n % 65536).toNat ∧ rdS 2 (some (smallB n ++ r)) = some r := by
  refine ⟨?_, rdS_le 2 _ _ (smallB_length n)⟩
  rw [smallB, rdN_le]
  omega
theorem truthB_length (x : Bool) : (truthB x).length = 1 := leBytes_length _ _
theorem rd_truth (x : Bool) (r : List UInt8) : decide (rdN 1 (some (truthB x ++ r)) = 1) = x ∧ rdTr (some (truthB x ++ r)) = some r := by
  have h := rdS_le 1 _ r (truthB_length x)
  have h2 : rdN 1 (some (truthB x ++ r)) = if x then 1 else 0 := by
    rw [truthB, rdN_le]; cases x <;> rfl
  rw [rdTr, h, h2]
  cases x <;> exact ⟨rfl, rfl⟩
theorem rd_text (s r : List UInt8) : rdT (some (textB s ++ r)) = s.take (s.length % 65536) ∧ rdTs (some (textB s ++ r)) = some r := by
  have e : textB s ++ r = smallB ((s.length % 65536 : Nat) : Int) ++ (s.take (s.length % 65536) ++ r) := by rw [textB, List.append_assoc]
  obtain ⟨h1, h2⟩ := rd_small ((s.length % 65536 : Nat) : Int) (s.take (s.length % 65536) ++ r)
  have h3 : (((s.length % 65536 : Nat) : Int) % 65536).toNat = s.length % 65536 := by omega
  rw [h3] at h1
  have hl : (s.take (s.length % 65536)).length = s.length % 65536 := by rw [List.length_take]; have := Nat.mod_le s.length 65536; omega
  rw [rdT, rdTs, e, h1, h2]
  refine ⟨?_, rdS_le _ _ _ hl⟩
  simp only
  rw [if_pos (by rw [List.length_append, hl]; omega), List.take_append_of_le_length (by omega), List.take_of_length_le (by omega)]
end Go.Proofs.YtdbgplnjppaimaaGreat
