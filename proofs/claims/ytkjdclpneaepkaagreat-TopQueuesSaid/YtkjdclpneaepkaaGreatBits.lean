/- Plain facts on the bits of whole numbers. -/
import Derived.WalkKit
open Go Go.RowKit
namespace Go.Proofs.YtkjdclpneaepkaaGreat

theorem ofInt_toNat (m : Nat) (n : Int) : (BitVec.ofInt m n).toNat = (n % ((2 ^ m : Nat) : Int)).toNat := by
  rw [BitVec.toNat_ofInt]

theorem bits_and_nat (k : IntKind) (x y : Int) : bits .and k x y = k.wrap ((((x % ((2 ^ k.bits : Nat) : Int)).toNat &&& (y % ((2 ^ k.bits : Nat) : Int)).toNat : Nat)) : Int) := by
  show k.wrap (((BitVec.ofInt k.bits x &&& BitVec.ofInt k.bits y).toNat : Nat) : Int) = _
  rw [BitVec.toNat_and, ofInt_toNat, ofInt_toNat]
theorem bits_or_nat (k : IntKind) (x y : Int) : bits .or k x y = k.wrap ((((x % ((2 ^ k.bits : Nat) : Int)).toNat ||| (y % ((2 ^ k.bits : Nat) : Int)).toNat : Nat)) : Int) := by
  show k.wrap (((BitVec.ofInt k.bits x ||| BitVec.ofInt k.bits y).toNat : Nat) : Int) = _
  rw [BitVec.toNat_or, ofInt_toNat, ofInt_toNat]
theorem bits_xor_nat (k : IntKind) (x y : Int) : bits .xor k x y = k.wrap ((((x % ((2 ^ k.bits : Nat) : Int)).toNat ^^^ (y % ((2 ^ k.bits : Nat) : Int)).toNat : Nat)) : Int) := by
  show k.wrap (((BitVec.ofInt k.bits x ^^^ BitVec.ofInt k.bits y).toNat : Nat) : Int) = _
  rw [BitVec.toNat_xor, ofInt_toNat, ofInt_toNat]

theorem emod_emod_pow (n : Int) (k m : Nat) (h : k ≤ m) : (n % ((2 ^ m : Nat) : Int)) % ((2 ^ k : Nat) : Int) = n % ((2 ^ k : Nat) : Int) :=
  Int.emod_emod_of_dvd n (by exact_mod_cast Nat.pow_dvd_pow 2 h)

/-- A mask of low bits on a signed number of sixty-four bits. -/
theorem and_mask_i64 (n : Int) (k : Nat) (hk : k ≤ 62) : bits .and .i64 n ((2 ^ k - 1 : Nat) : Int) = n % ((2 ^ k : Nat) : Int) := by
  have h1 : (2:Nat) ^ k ≤ 2 ^ 62 := Nat.pow_le_pow_right (by omega) hk
  have h0 : 0 < (2:Nat) ^ k := Nat.pow_pos (by omega)
  rw [bits_and_nat]
  have eb : IntKind.i64.bits = 64 := rfl
  rw [eb]
  have h3 := emod_emod_pow n k 64 (by omega)
  have e64 : (2 : Nat) ^ 64 = 18446744073709551616 := rfl
  have e62 : (2 : Nat) ^ 62 = 4611686018427387904 := rfl
  rw [e62] at h1
  rw [e64] at h3 ⊢
  generalize hp : (2 : Nat) ^ k = p at *
  have e2 : (((p - 1 : Nat) : Int) % ((18446744073709551616 : Nat) : Int)).toNat = p - 1 := by omega
  have ha : ((n % ((18446744073709551616 : Nat) : Int)).toNat &&& (p - 1)) = (n % ((18446744073709551616 : Nat) : Int)).toNat % p := by
    rw [← hp]; exact Nat.and_two_pow_sub_one_eq_mod _ _
  rw [e2, ha]
  have h4 : (((n % ((18446744073709551616 : Nat) : Int)).toNat % p : Nat) : Int) = n % (p : Int) := by
    rw [Int.natCast_emod, Int.toNat_of_nonneg (by omega), h3]
  rw [h4]
  have h5 := Int.emod_nonneg n (b := (p : Int)) (by omega)
  have h6 := Int.emod_lt_of_pos n (b := (p : Int)) (by omega)
  exact IntWalk.i64_in _ (by omega)
theorem and_1_i64 (n : Int) : bits .and .i64 n 1 = n % 2 := and_mask_i64 n 1 (by omega)
theorem and_3_i64 (n : Int) : bits .and .i64 n 3 = n % 4 := and_mask_i64 n 2 (by omega)
theorem and_255_i64 (n : Int) : bits .and .i64 n 255 = n % 256 := and_mask_i64 n 8 (by omega)
theorem and_65535_i64 (n : Int) : bits .and .i64 n 65535 = n % 65536 := and_mask_i64 n 16 (by omega)

theorem nat_or_shift (acc x k : Nat) (h : acc < 2 ^ k) : acc ||| (x * 2 ^ k) = acc + x * 2 ^ k := by
  rw [Nat.or_comm, Nat.mul_comm, ← Nat.two_pow_add_eq_or_of_lt h, Nat.add_comm]

theorem or_step_u64 (acc x k : Nat) (h : acc < 2 ^ (8 * k)) (hx : x < 256) (hk : k < 8) :
    bits .or .u64 (acc : Int) (IntKind.u64.wrap ((x : Int) * 2 ^ (8 * k))) = ((acc + 2 ^ (8 * k) * x : Nat) : Int) := by
  have h1 : (2 : Nat) ^ (8 * k) * 256 ≤ 2 ^ 64 := by
    rw [show (256 : Nat) = 2 ^ 8 from rfl, ← Nat.pow_add]; exact Nat.pow_le_pow_right (by omega) (by omega)
  have e64 : (2 : Nat) ^ 64 = 18446744073709551616 := rfl
  have ex : ((x : Int) * 2 ^ (8 * k)) = ((x * 2 ^ (8 * k) : Nat) : Int) := by push_cast; rfl
  have h2 : x * 2 ^ (8 * k) ≤ 255 * 2 ^ (8 * k) := Nat.mul_le_mul_right _ (by omega)
  rw [ex, IntWalk.u64_in _ (by omega), bits_or_nat]
  have eb : IntKind.u64.bits = 64 := rfl
  rw [eb, e64]
  have ea : ((acc : Int) % ((18446744073709551616 : Nat) : Int)).toNat = acc := by omega
  have ey : (((x * 2 ^ (8 * k) : Nat) : Int) % ((18446744073709551616 : Nat) : Int)).toNat = x * 2 ^ (8 * k) := by omega
  rw [ea, ey, nat_or_shift _ _ _ h, IntWalk.u64_in _ (by omega), Nat.mul_comm x]
end Go.Proofs.YtkjdclpneaepkaaGreat
