/- Castagnoli's sum, as numbers. No program in sight. -/
import Derived.Test.YtkjdclpneaepkaaGreatBase
import Derived.Test.YtkjdclpneaepkaaGreatBits
open Go Go.RowKit
namespace Go.Proofs.YtkjdclpneaepkaaGreat

def crcStep (s : Nat) : Nat := if s % 2 = 1 then (s / 2) ^^^ 2197175160 else s / 2
def crcN : Nat → Nat → Nat
  | 0, s => s
  | k + 1, s => crcStep (crcN k s)
/-- One byte's step. -/
def crcByte (s : Nat) (x : UInt8) : Nat := crcN 8 (s ^^^ x.toNat)
def crcOn (s : Nat) (l : List UInt8) : Nat := (l.foldl crcByte (s ^^^ 4294967295)) ^^^ 4294967295
def crcOf (l : List UInt8) : Nat := crcOn 0 l

theorem crcStep_lt {s : Nat} (h : s < 4294967296) : crcStep s < 4294967296 := by
  unfold crcStep
  split
  · exact Nat.xor_lt_two_pow (n := 32) (by omega) (by decide)
  · omega
theorem crcN_lt (k : Nat) {s : Nat} (h : s < 4294967296) : crcN k s < 4294967296 := by
  induction k with
  | zero => exact h
  | succ k ih => exact crcStep_lt ih
theorem xor_lt32 {a b : Nat} (ha : a < 4294967296) (hb : b < 4294967296) : a ^^^ b < 4294967296 := Nat.xor_lt_two_pow (n := 32) ha hb
theorem crcByte_lt {s : Nat} (x : UInt8) (h : s < 4294967296) : crcByte s x < 4294967296 :=
  crcN_lt 8 (xor_lt32 h (by have := x.toNat_lt; omega))
theorem crcFold_lt (l : List UInt8) : ∀ {s : Nat}, s < 4294967296 → l.foldl crcByte s < 4294967296 := by
  induction l with
  | nil => intro s h; exact h
  | cons x l ih => intro s h; exact ih (crcByte_lt x h)
theorem crcOn_lt {s : Nat} (l : List UInt8) (h : s < 4294967296) : crcOn s l < 4294967296 := xor_lt32 (crcFold_lt l (xor_lt32 h (by decide))) (by decide)
theorem crcOf_lt (l : List UInt8) : crcOf l < 4294967296 := crcOn_lt l (by decide)

theorem xor_u32 (a b : Nat) (ha : a < 4294967296) (hb : b < 4294967296) : bits .xor .u32 (a : Int) (b : Int) = ((a ^^^ b : Nat) : Int) := by
  rw [bits_xor_nat]
  have e32 : (2 : Nat) ^ IntKind.u32.bits = 4294967296 := rfl
  rw [e32]
  have h1 : ((a : Int) % ((4294967296 : Nat) : Int)).toNat = a := by omega
  have h2 : ((b : Int) % ((4294967296 : Nat) : Int)).toNat = b := by omega
  have := xor_lt32 ha hb
  rw [h1, h2, IntWalk.u32_in _ (by omega)]
theorem and1_u32 (a : Nat) (ha : a < 4294967296) : bits .and .u32 (a : Int) 1 = ((a % 2 : Nat) : Int) := by
  rw [bits_and_nat]
  have e32 : (2 : Nat) ^ IntKind.u32.bits = 4294967296 := rfl
  rw [e32]
  have h1 : ((a : Int) % ((4294967296 : Nat) : Int)).toNat = a := by omega
  have h2 : ((1 : Int) % ((4294967296 : Nat) : Int)).toNat = 1 := by omega
  rw [h1, h2, show a &&& 1 = a % 2 from Nat.and_two_pow_sub_one_eq_mod a 1, IntWalk.u32_in _ (by omega)]

/-! ### bit by bit -/
theorem xor_div2 (a b : Nat) : (a ^^^ b) / 2 = a / 2 ^^^ b / 2 := by
  have := Nat.shiftRight_xor_distrib (a := a) (b := b) (i := 1)
  simpa [Nat.shiftRight_succ] using this
theorem xor_mod2 (a b : Nat) : (a ^^^ b) % 2 = (a % 2 + b % 2) % 2 := by
  have h : (a ^^^ b) % 2 = (a % 2) ^^^ (b % 2) := Nat.xor_mod_two_pow (n := 1)
  rw [h]
  rcases Nat.mod_two_eq_zero_or_one a with ha | ha <;> rcases Nat.mod_two_eq_zero_or_one b with hb | hb <;> rw [ha, hb] <;> decide
theorem crcStep_xor (s x : Nat) : crcStep (s ^^^ x) = crcStep (s ^^^ (x % 2)) ^^^ (x / 2) := by
  have h1 : (s ^^^ x) % 2 = (s ^^^ (x % 2)) % 2 := by rw [xor_mod2, xor_mod2]; omega
  have h2 : (s ^^^ x) / 2 = (s ^^^ (x % 2)) / 2 ^^^ x / 2 := by
    rw [xor_div2, xor_div2, show x % 2 / 2 = 0 by omega, Nat.xor_zero]
  unfold crcStep
  rw [h1, h2]
  split
  · rw [Nat.xor_assoc, Nat.xor_comm (x / 2), ← Nat.xor_assoc]
  · rfl
/-- k bits of x, the lowest first, each by itself. -/
def crcBitsX : Nat → Nat → Nat → Nat
  | 0, s, _ => s
  | k + 1, s, x => crcBitsX k (crcStep (s ^^^ (x % 2))) (x / 2)
theorem crcN_succ' (k s : Nat) : crcN (k + 1) s = crcN k (crcStep s) := by
  induction k with
  | zero => rfl
  | succ k ih => rw [crcN, ih]; rfl
theorem crcN_bits (k : Nat) : ∀ s x : Nat, x < 2 ^ k → crcN k (s ^^^ x) = crcBitsX k s x := by
  induction k with
  | zero => intro s x hx; have : x = 0 := by omega
            subst this; simp [crcN, crcBitsX]
  | succ k ih =>
    intro s x hx
    rw [crcN_succ', crcStep_xor, ih _ _ (by rw [Nat.pow_succ] at hx; omega), crcBitsX]
theorem crcBitsX_snoc (k : Nat) : ∀ s x : Nat, crcBitsX (k + 1) s x = crcStep (crcBitsX k s x ^^^ (x / 2 ^ k % 2)) := by
  induction k with
  | zero => intro s x; simp [crcBitsX]
  | succ k ih =>
    intro s x
    rw [crcBitsX, ih, crcBitsX, Nat.div_div_eq_div_mul, Nat.pow_succ, Nat.mul_comm 2]

/-- The i-th bit of bytes. -/
def bitAt (l : List UInt8) (i : Nat) : Nat := (l.getD (i / 8) 0).toNat / 2 ^ (i % 8) % 2
/-- The register behind i bits. -/
def crcBits (l : List UInt8) : Nat → Nat
  | 0 => 4294967295
  | i + 1 => crcStep (crcBits l i ^^^ bitAt l i)
theorem bitAt_lt (l : List UInt8) (i : Nat) : bitAt l i < 2 := Nat.mod_lt _ (by omega)
theorem crcBits_lt (l : List UInt8) (i : Nat) : crcBits l i < 4294967296 := by
  induction i with
  | zero => show 4294967295 < 4294967296; decide
  | succ i ih => exact crcStep_lt (xor_lt32 ih (by have := bitAt_lt l i; omega))
theorem crcBits_in (l : List UInt8) (j : Nat) : ∀ k, k ≤ 8 → crcBits l (8 * j + k) = crcBitsX k (crcBits l (8 * j)) (l.getD j 0).toNat := by
  intro k
  induction k with
  | zero => intro _; rfl
  | succ k ih =>
    intro hk
    rw [← Nat.add_assoc, crcBits, ih (by omega), crcBitsX_snoc]
    have h1 : (8 * j + k) / 8 = j := by omega
    have h2 : (8 * j + k) % 8 = k := by omega
    rw [bitAt, h1, h2]
theorem crcBits_bytes (l : List UInt8) : ∀ j, j ≤ l.length → crcBits l (8 * j) = (l.take j).foldl crcByte 4294967295 := by
  intro j
  induction j with
  | zero => intro _; rfl
  | succ j ih =>
    intro hj
    rw [Nat.mul_succ, crcBits_in l j 8 (Nat.le_refl _), ih (by omega), List.take_succ_eq_append_getElem (by omega), List.foldl_append]
    simp only [List.foldl_cons, List.foldl_nil, crcByte]
    rw [crcN_bits 8 _ _ (by have := l[j].toNat_lt; exact this)]
    rw [List.getD_eq_getElem?_getD, List.getElem?_eq_getElem (by omega), Option.getD_some]
theorem crcOf_bits (l : List UInt8) : crcOf l = crcBits l (8 * l.length) ^^^ 4294967295 := by
  rw [crcBits_bytes l _ (Nat.le_refl _), List.take_length, crcOf, crcOn, Nat.zero_xor]

/-! ### the sum is a line over bits -/
theorem crcStep_lin (a b : Nat) : crcStep (a ^^^ b) = crcStep a ^^^ crcStep b := by
  unfold crcStep
  rw [xor_mod2, xor_div2]
  rcases Nat.mod_two_eq_zero_or_one a with ha | ha <;> rcases Nat.mod_two_eq_zero_or_one b with hb | hb <;> rw [ha, hb]
  · simp
  · simp [Nat.xor_assoc]
  · simp [Nat.xor_assoc, Nat.xor_comm (b / 2)]
  · simp only [Nat.reduceAdd, Nat.reduceMod, if_true]
    rw [if_neg (by decide), Nat.xor_assoc, Nat.xor_comm 2197175160 (b / 2 ^^^ 2197175160), Nat.xor_assoc, Nat.xor_self, Nat.xor_zero]
theorem crcN_lin (k a b : Nat) : crcN k (a ^^^ b) = crcN k a ^^^ crcN k b := by
  induction k with
  | zero => rfl
  | succ k ih => rw [crcN, ih, crcStep_lin]; rfl
theorem crcByte_lin (a b : Nat) (x y : UInt8) : crcByte (a ^^^ b) (x ^^^ y) = crcByte a x ^^^ crcByte b y := by
  unfold crcByte
  rw [UInt8.toNat_xor, ← crcN_lin]
  congr 1
  rw [Nat.xor_assoc, Nat.xor_assoc]
  congr 1
  rw [← Nat.xor_assoc, Nat.xor_comm b, Nat.xor_assoc]
theorem crcFold_lin3 (l1 : List UInt8) : ∀ (l2 l3 : List UInt8) (a b c : Nat), l1.length = l2.length → l1.length = l3.length →
    (List.zipWith (fun (p : UInt8 × UInt8) z => p.1 ^^^ p.2 ^^^ z) (l1.zip l2) l3).foldl crcByte (a ^^^ b ^^^ c) = l1.foldl crcByte a ^^^ l2.foldl crcByte b ^^^ l3.foldl crcByte c := by
  induction l1 with
  | nil => intro l2 l3 a b c h2 h3
           have e2 : l2 = [] := List.eq_nil_of_length_eq_zero (by simpa using h2.symm)
           have e3 : l3 = [] := List.eq_nil_of_length_eq_zero (by simpa using h3.symm)
           subst e2 e3; rfl
  | cons x l1 ih =>
    intro l2 l3 a b c h2 h3
    cases l2 with
    | nil => simp at h2
    | cons y l2 =>
      cases l3 with
      | nil => simp at h3
      | cons z l3 =>
        simp only [List.zip_cons_cons, List.zipWith_cons_cons, List.foldl_cons]
        rw [crcByte_lin, crcByte_lin]
        exact ih l2 l3 _ _ _ (by simpa using h2) (by simpa using h3)
def xor3 (l1 l2 l3 : List UInt8) : List UInt8 := List.zipWith (fun (p : UInt8 × UInt8) z => p.1 ^^^ p.2 ^^^ z) (l1.zip l2) l3
theorem crcOf_line (l1 l2 l3 : List UInt8) (h2 : l1.length = l2.length) (h3 : l1.length = l3.length) : crcOf l1 ^^^ crcOf l2 ^^^ crcOf l3 = crcOf (xor3 l1 l2 l3) := by
  have h := crcFold_lin3 l1 l2 l3 4294967295 4294967295 4294967295 h2 h3
  rw [show (4294967295 : Nat) ^^^ 4294967295 ^^^ 4294967295 = 4294967295 by decide] at h
  simp only [crcOf, crcOn, Nat.zero_xor, xor3]
  rw [h]
  generalize l1.foldl crcByte 4294967295 = a
  generalize l2.foldl crcByte 4294967295 = b
  generalize l3.foldl crcByte 4294967295 = c
  rw [Nat.xor_assoc a, Nat.xor_comm 4294967295 (b ^^^ 4294967295), Nat.xor_assoc b, Nat.xor_self, Nat.xor_zero, ← Nat.xor_assoc]
theorem xor3_length (l1 l2 l3 : List UInt8) (h2 : l1.length = l2.length) (h3 : l1.length = l3.length) : (xor3 l1 l2 l3).length = l1.length := by
  simp [xor3]; omega
theorem xor3_get (l1 l2 l3 : List UInt8) (i : Nat) (h : i < (xor3 l1 l2 l3).length) (h1 : i < l1.length) (h2 : i < l2.length) (h3 : i < l3.length) : (xor3 l1 l2 l3)[i] = l1[i] ^^^ l2[i] ^^^ l3[i] := by
  simp [xor3]
end Go.Proofs.YtkjdclpneaepkaaGreat
