/- Bytes of a packet of which one was turned are no packet's: plain. -/
import Derived.Test.YtlabhbjampkhpaaGreatTurn
import Derived.Test.YtlabhbjampkhpaaGreatNetX
open Go Go.RowKit
namespace Go.Proofs.YtlabhbjampkhpaaGreat
theorem bitAt_setx (l : List UInt8) (j : Nat) (hj : j < l.length) (y x : UInt8) (hy : y.toNat = (l.getD j 0).toNat ^^^ x.toNat) (i : Nat) :
    bitAt (l.set j y) i = bitAt l i ^^^ (if 8 * j ≤ i ∧ i < 8 * j + 8 then x.toNat / 2 ^ (i - 8 * j) % 2 else 0) := by
  rw [bitAt_test, bitAt_test]
  by_cases h : i / 8 = j
  · subst h
    have e : (l.set (i / 8) y).getD (i / 8) 0 = y := by
      rw [List.getD_eq_getElem?_getD, List.getElem?_set_self hj]; rfl
    rw [e, hy, Nat.testBit_xor, if_pos (by omega), show i - 8 * (i / 8) = i % 8 by omega]
    have e2 : x.toNat / 2 ^ (i % 8) % 2 = (x.toNat.testBit (i % 8)).toNat := by
      rw [Nat.testBit_eq_decide_div_mod_eq]
      rcases Nat.mod_two_eq_zero_or_one (x.toNat / 2 ^ (i % 8)) with h | h <;> rw [h] <;> rfl
    rw [e2]
    cases ((l.getD (i / 8) 0).toNat.testBit (i % 8)) <;> cases (x.toNat.testBit (i % 8)) <;> rfl
  · have e : (l.set j y).getD (i / 8) 0 = l.getD (i / 8) 0 := by
      rw [List.getD_eq_getElem?_getD, List.getElem?_set_ne (fun e => h e.symm), ← List.getD_eq_getElem?_getD]
    rw [e, if_neg (by omega), Nat.xor_zero]
theorem crc_setx (l : List UInt8) (j : Nat) (hj : j < l.length) (y x : UInt8) (hy : y.toNat = (l.getD j 0).toNat ^^^ x.toNat) (h : crcOf l = crcOf (l.set j y)) : x = 0 := by
  have h2 := (turn_law l (l.set j y) (by rw [List.length_set]) (8 * j) 8 x.toNat (by decide) (by omega) (bitAt_setx l j hj y x hy)).1 h
  have := x.toNat_lt
  have e : x.toNat = 0 := by omega
  exact UInt8.toNat_inj.1 e
theorem sum_inj {a b : Nat} (ha : a < 4294967296) (hb : b < 4294967296) (h : smallB a ++ smallB ((a : Int) / 65536) = smallB b ++ smallB ((b : Int) / 65536)) : a = b := by
  simp [smallB, leBytes] at h
  obtain ⟨h1, h2, h3, h4⟩ := h
  have g1 := congrArg UInt8.toNat h1
  have g2 := congrArg UInt8.toNat h2
  have g3 := congrArg UInt8.toNat h3
  have g4 := congrArg UInt8.toNat h4
  simp at g1 g2 g3 g4
  omega
theorem dec_len {l : List UInt8} (h : decW l = true) : l.length = 21 := by
  rw [← (dec_is h).2.1]; exact wireB_length _
theorem dec_badlen {l : List UInt8} (h : l.length ≠ 21) : decW l = false := by
  rw [Bool.eq_false_iff]; exact fun e => h (dec_len e)
theorem wire_take (p : PackV) : (wireB p).take 17 = pkB p := by
  unfold wireB sealB
  rw [List.append_assoc, List.take_append_of_le_length (by rw [pkB_length]; omega), List.take_of_length_le (by rw [pkB_length]; omega)]
theorem wire_drop (p : PackV) : (wireB p).drop 17 = smallB (crcOf (pkB p)) ++ smallB ((crcOf (pkB p) : Int) / 65536) := by
  unfold wireB sealB
  rw [List.append_assoc]
  exact List.drop_left' (pkB_length p)
theorem turn_dec (p : PackV) (hp : GoodP p) (j : Nat) (hj : j < 21) (x y : UInt8) (hy : y.toNat = ((wireB p).getD j 0).toNat ^^^ x.toNat) :
    decW ((wireB p).set j y) = decide (x = 0) := by
  have hwl := wireB_length p
  by_cases hx : x = 0
  · subst hx
    have e : y = (wireB p)[j]'(by omega) := by
      apply UInt8.toNat_inj.1
      rw [hy, List.getD_eq_getElem?_getD, List.getElem?_eq_getElem (by omega)]
      simp
    rw [e, List.set_getElem_self, (dec_wire p hp.1 hp.2).1]
    simp
  · rw [decide_eq_false hx, Bool.eq_false_iff]
    intro h
    obtain ⟨h1, h2, _⟩ := dec_is h
    generalize decPk ((wireB p).set j y) = q at h1 h2
    have t1 := congrArg (List.take 17) h2
    have t2 := congrArg (List.drop 17) h2
    rw [wire_take, List.take_set, wire_take] at t1
    rw [wire_drop] at t2
    by_cases hjj : j < 17
    · rw [List.drop_set_of_lt hjj, wire_drop] at t2
      have e := sum_inj (crcOf_lt _) (crcOf_lt _) t2
      have hg : (wireB p).getD j 0 = (pkB p).getD j 0 := by
        rw [← wire_take p, List.getD_eq_getElem?_getD, List.getD_eq_getElem?_getD, List.getElem?_take_of_lt hjj]
      rw [hg] at hy
      rw [t1] at e
      exact hx (crc_setx (pkB p) j (by rw [pkB_length]; exact hjj) y x hy e.symm)
    · rw [List.set_eq_of_length_le (by rw [pkB_length]; omega)] at t1
      have e : wireB q = wireB p := by unfold wireB; rw [t1]
      rw [e] at h2
      have g := congrArg (fun l => l.getD j 0) h2
      rw [List.getD_eq_getElem?_getD (l := (wireB p).set j y), List.getElem?_set_self (by omega)] at g
      simp only [Option.getD_some] at g
      rw [← g] at hy
      have h3 : x.toNat = 0 := by
        have := congrArg (fun n => ((wireB p).getD j 0).toNat ^^^ n) hy
        rw [← Nat.xor_assoc, Nat.xor_self, Nat.zero_xor] at this
        exact this.symm
      exact hx (UInt8.toNat_inj.1 h3)
end Go.Proofs.YtlabhbjampkhpaaGreat
