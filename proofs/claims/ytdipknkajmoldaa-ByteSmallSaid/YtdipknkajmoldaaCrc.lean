/- Castagnoli's sum, as numbers. No program in sight. -/
import Derived.Test.YtdipknkajmoldaaBase
import Derived.Test.YtdipknkajmoldaaBits
open Go Go.RowKit
namespace Go.Proofs.Ytdipknkajmoldaa

def crcStep (s : Nat) : Nat := if s % 2 = 1 then (s / 2) ^^^ 2197175160 else s / 2
def crcN : Nat → Nat → Nat
  | 0, s => s
  | k + 1, s => crcStep (crcN k s)
/-- One byte's step. -/
def crcByte (s : Nat) (x : UInt8) : Nat := crcN 8 (s ^^^ x.toNat)
def crcOn (s : Nat) (l : List UInt8) : Nat := (l.foldl crcByte (s ^^^ 4294967295)) ^^^ 4294967295
def crcOf (l : List UInt8) : Nat := crcOn 0 l

theorem crcStep_lt {s : Nat} (h : s < 4294967296) : crcStep s < 4294967296 := by
  unfold crcStep
  split
  · exact Nat.xor_lt_two_pow (n := 32) (by omega) (by decide)
  · omega
theorem crcN_lt (k : Nat) {s : Nat} (h : s < 4294967296) : crcN k s < 4294967296 := by
  induction k with
  | zero => exact h
  | succ k ih => exact crcStep_lt ih
theorem xor_lt32 {a b : Nat} (ha : a < 4294967296) (hb : b < 4294967296) : a ^^^ b < 4294967296 := Nat.xor_lt_two_pow (n := 32) ha hb
theorem crcByte_lt {s : Nat} (x : UInt8) (h : s < 4294967296) : crcByte s x < 4294967296 :=
  crcN_lt 8 (xor_lt32 h (by have := x.toNat_lt; omega))
theorem crcFold_lt (l : List UInt8) : ∀ {s : Nat}, s < 4294967296 → l.foldl crcByte s < 4294967296 := by
  induction l with
  | nil => intro s h; exact h
  | cons x l ih => intro s h; exact ih (crcByte_lt x h)
theorem crcOn_lt {s : Nat} (l : List UInt8) (h : s < 4294967296) : crcOn s l < 4294967296 := xor_lt32 (crcFold_lt l (xor_lt32 h (by decide))) (by decide)
theorem crcOf_lt (l : List UInt8) : crcOf l < 4294967296 := crcOn_lt l (by decide)

theorem xor_u32 (a b : Nat) (ha : a < 4294967296) (hb : b < 4294967296) : bits .xor .u32 (a : Int) (b : Int) = ((a ^^^ b : Nat) : Int) := by
  rw [bits_xor_nat]
  have e32 : (2 : Nat) ^ IntKind.u32.bits = 4294967296 := rfl
  rw [e32]
  have h1 : ((a : Int) % ((4294967296 : Nat) : Int)).toNat = a := by omega
  have h2 : ((b : Int) % ((4294967296 : Nat) : Int)).toNat = b := by omega
  have := xor_lt32 ha hb
  rw [h1, h2, IntWalk.u32_in _ (by omega)]
theorem and1_u32 (a : Nat) (ha : a < 4294967296) : bits .and .u32 (a : Int) 1 = ((a % 2 : Nat) : Int) := by
  rw [bits_and_nat]
  have e32 : (2 : Nat) ^ IntKind.u32.bits = 4294967296 := rfl
  rw [e32]
  have h1 : ((a : Int) % ((4294967296 : Nat) : Int)).toNat = a := by omega
  have h2 : ((1 : Int) % ((4294967296 : Nat) : Int)).toNat = 1 := by omega
  rw [h1, h2, show a &&& 1 = a % 2 from Nat.and_two_pow_sub_one_eq_mod a 1, IntWalk.u32_in _ (by omega)]
end Go.Proofs.Ytdipknkajmoldaa
