/- Bytes in which bits were turned within thirty-two in a row have another sum: plain numbers. -/
import Derived.Test.YtlabhbjampkhpaaGreatCrc
open Go Go.RowKit
namespace Go.Proofs.YtlabhbjampkhpaaGreat

def crcB (f : Nat → Nat) : Nat → Nat
  | 0 => 0
  | i + 1 => crcStep (crcB f i ^^^ f i)
theorem crcStep_zero : crcStep 0 = 0 := by decide
theorem crcStep_eq_zero {v : Nat} (hv : v < 4294967296) (h : crcStep v = 0) : v = 0 := by
  unfold crcStep at h
  split at h
  · have h2 : v / 2 = 2197175160 := by
      have := congrArg (fun z => z ^^^ 2197175160) h
      simpa [Nat.xor_assoc] using this
    omega
  · omega
theorem crcN_eq_zero (k : Nat) : ∀ {v : Nat}, v < 4294967296 → crcN k v = 0 → v = 0 := by
  induction k with
  | zero => intro v _ h; exact h
  | succ k ih => intro v hv h; exact ih hv (crcStep_eq_zero (crcN_lt k hv) h)
theorem crcN_zero (k : Nat) : crcN k 0 = 0 := by
  induction k with
  | zero => rfl
  | succ k ih => rw [crcN, ih]; exact crcStep_zero
theorem crcN_add (a b v : Nat) : crcN (a + b) v = crcN a (crcN b v) := by
  induction a with
  | zero => rw [Nat.zero_add]; rfl
  | succ a ih => rw [show a + 1 + b = (a + b) + 1 by omega, crcN, ih]; rfl
theorem crcBitsX_mod (m : Nat) : ∀ s x : Nat, crcBitsX m s x = crcBitsX m s (x % 2 ^ m) := by
  induction m with
  | zero => intro s x; rfl
  | succ m ih =>
    intro s x
    rw [crcBitsX_snoc, crcBitsX_snoc]
    have e1 : crcBitsX m s (x % 2 ^ (m + 1)) = crcBitsX m s x := by
      rw [ih s x, ih s (x % 2 ^ (m + 1))]
      congr 1
      rw [Nat.pow_succ]
      exact Nat.mod_mul_right_mod x (2 ^ m) 2
    have e2 : x % 2 ^ (m + 1) / 2 ^ m % 2 = x / 2 ^ m % 2 := by
      rw [Nat.mod_pow_succ]
      have h0 : 0 < 2 ^ m := Nat.pow_pos (by omega)
      rw [Nat.add_mul_div_left _ _ h0, Nat.div_eq_of_lt (Nat.mod_lt _ h0), Nat.zero_add, Nat.mod_mod]
    rw [e1, e2]

theorem turn_law (b c : List UInt8) (hl : c.length = b.length) (at_ m bits : Nat) (hm : m ≤ 32) (hlen : at_ + m ≤ 8 * b.length)
    (h : ∀ j, bitAt c j = bitAt b j ^^^ (if at_ ≤ j ∧ j < at_ + m then bits / 2 ^ (j - at_) % 2 else 0)) : crcOf b = crcOf c ↔ bits % 2 ^ m = 0 := by
  let f : Nat → Nat := fun j => if at_ ≤ j ∧ j < at_ + m then bits / 2 ^ (j - at_) % 2 else 0
  have e1 : ∀ n, crcBits b n ^^^ crcBits c n = crcB f n := by
    intro n
    induction n with
    | zero => exact Nat.xor_self _
    | succ n ih =>
      rw [crcB, ← ih, crcBits, crcBits, ← crcStep_lin]
      congr 1
      rw [h n]
      show _ ^^^ _ ^^^ (_ ^^^ (_ ^^^ f n)) = _ ^^^ _ ^^^ f n
      generalize crcBits b n = A
      generalize crcBits c n = C
      generalize bitAt b n = x
      generalize f n = y
      rw [Nat.xor_assoc A x, ← Nat.xor_assoc x C, Nat.xor_comm x C, Nat.xor_assoc C x, ← Nat.xor_assoc x x, Nat.xor_self, Nat.zero_xor, Nat.xor_assoc]
  have e2 : ∀ n, n ≤ at_ → crcB f n = 0 := by
    intro n
    induction n with
    | zero => intro _; rfl
    | succ n ih =>
      intro hn
      rw [crcB, ih (by omega)]
      have : f n = 0 := if_neg (by omega)
      rw [this]; exact crcStep_zero
  have e3 : ∀ k, k ≤ m → crcB f (at_ + k) = crcBitsX k 0 bits := by
    intro k
    induction k with
    | zero => intro _; exact e2 at_ (Nat.le_refl _)
    | succ k ih =>
      intro hk
      rw [← Nat.add_assoc, crcB, ih (by omega), crcBitsX_snoc]
      have : f (at_ + k) = bits / 2 ^ k % 2 := by
        show (if _ then _ else _) = _
        rw [if_pos (by omega), Nat.add_sub_cancel_left]
      rw [this]
  have e4 : ∀ r, crcB f (at_ + m + r) = crcN r (crcBitsX m 0 bits) := by
    intro r
    induction r with
    | zero => exact e3 m (Nat.le_refl _)
    | succ r ih =>
      rw [← Nat.add_assoc, crcB, ih]
      have : f (at_ + m + r) = 0 := if_neg (by omega)
      rw [this, Nat.xor_zero]; rfl
  have e5 : crcBitsX m 0 bits = crcN m (bits % 2 ^ m) := by
    rw [crcBitsX_mod, ← crcN_bits m 0 _ (Nat.mod_lt _ (Nat.pow_pos (by omega))), Nat.zero_xor]
  have e6 : crcBits b (8 * b.length) ^^^ crcBits c (8 * b.length) = crcN (8 * b.length - (at_ + m)) (crcN m (bits % 2 ^ m)) := by
    rw [e1, ← e5, ← e4]; congr 1; omega
  have hv : bits % 2 ^ m < 4294967296 := by
    have h1 : bits % 2 ^ m < 2 ^ m := Nat.mod_lt _ (Nat.pow_pos (by omega))
    have h2 : 2 ^ m ≤ 2 ^ 32 := Nat.pow_le_pow_right (by omega) hm
    have h3 : (2 : Nat) ^ 32 = 4294967296 := rfl
    omega
  rw [crcOf_bits, crcOf_bits, hl]
  constructor
  · intro hq
    have hq2 : crcBits b (8 * b.length) = crcBits c (8 * b.length) := by
      have := congrArg (fun z => z ^^^ 4294967295) hq
      simpa [Nat.xor_assoc] using this
    rw [hq2, Nat.xor_self, ← crcN_add] at e6
    exact crcN_eq_zero _ hv e6.symm
  · intro hz
    rw [hz, crcN_zero, crcN_zero] at e6
    have : crcBits b (8 * b.length) = crcBits c (8 * b.length) := by
      have := congrArg (fun z => z ^^^ crcBits c (8 * b.length)) e6
      simpa [Nat.xor_assoc] using this
    rw [this]

/-- One bit turned. -/
theorem bitAt_test (l : List UInt8) (i : Nat) : bitAt l i = ((l.getD (i / 8) 0).toNat.testBit (i % 8)).toNat := by
  rw [bitAt, Nat.testBit_eq_decide_div_mod_eq]
  rcases Nat.mod_two_eq_zero_or_one ((l.getD (i / 8) 0).toNat / 2 ^ (i % 8)) with h | h <;> rw [h] <;> rfl
theorem bitAt_set (l : List UInt8) (p : Nat) (hp : p < 8 * l.length) (y : UInt8) (hy : y.toNat = (l.getD (p / 8) 0).toNat ^^^ 2 ^ (p % 8)) (j : Nat) :
    bitAt (l.set (p / 8) y) j = bitAt l j ^^^ (if j = p then 1 else 0) := by
  rw [bitAt_test, bitAt_test]
  have hq : p / 8 < l.length := by omega
  by_cases h : j / 8 = p / 8
  · have e : (l.set (p / 8) y).getD (j / 8) 0 = y := by
      rw [h, List.getD_eq_getElem?_getD, List.getElem?_set_self hq]; rfl
    rw [e, hy, Nat.testBit_xor, Nat.testBit_two_pow, h]
    by_cases h2 : j = p
    · subst h2
      rw [if_pos rfl]
      simp only [decide_true]
      cases ((l.getD (j / 8) 0).toNat.testBit (j % 8)) <;> rfl
    · rw [if_neg h2, Nat.xor_zero]
      have : ¬ p % 8 = j % 8 := by omega
      rw [decide_eq_false this]
      cases ((l.getD (p / 8) 0).toNat.testBit (j % 8)) <;> rfl
  · have e : (l.set (p / 8) y).getD (j / 8) 0 = l.getD (j / 8) 0 := by
      rw [List.getD_eq_getElem?_getD, List.getElem?_set_ne (fun e => h e.symm), ← List.getD_eq_getElem?_getD]
    rw [e, if_neg (by intro e; subst e; exact h rfl), Nat.xor_zero]
end Go.Proofs.YtlabhbjampkhpaaGreat
