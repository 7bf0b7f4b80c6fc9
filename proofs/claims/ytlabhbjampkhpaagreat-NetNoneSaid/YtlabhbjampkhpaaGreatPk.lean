/- A packet's bytes, read: plain. -/
import Derived.Test.YtlabhbjampkhpaaGreatWEnc
import Derived.Test.YtlabhbjampkhpaaGreatRound
open Go Go.RowKit
namespace Go.Proofs.YtlabhbjampkhpaaGreat
/-- What a reader of a packet's parts sees. -/
def s1 (l : List UInt8) : Option (List UInt8) := rdS 2 (some l)
def s2 (l : List UInt8) : Option (List UInt8) := rdS 2 (s1 l)
def s3 (l : List UInt8) : Option (List UInt8) := rdS 2 (s2 l)
def s4 (l : List UInt8) : Option (List UInt8) := rdS 8 (s3 l)
def s5 (l : List UInt8) : Option (List UInt8) := rdS 2 (s4 l)
def s6 (l : List UInt8) : Option (List UInt8) := rdTr (s5 l)
def rdP (l : List UInt8) : PackV := ⟨(rdN 2 (some l) : Nat), (rdN 2 (s1 l) : Nat), (rdN 2 (s2 l) : Nat), wrap64 (rdN 8 (s3 l) : Nat), (rdN 2 (s4 l) : Nat), decide (rdN 1 (s5 l) = 1)⟩
def bodyOf (l : List UInt8) : List UInt8 := l.take (l.length - 4)
def decW (l : List UInt8) : Bool := decide (4 ≤ l.length) && (endOf (s6 (bodyOf l)) && (packB (rdP (bodyOf l)) && decide (wireB (rdP (bodyOf l)) = l)))
def PackV.zero : PackV := ⟨0, 0, 0, 0, 0, false⟩
def decPk (l : List UInt8) : PackV := if decW l then rdP (bodyOf l) else PackV.zero
theorem rdN_in (k : Nat) (st : Option (List UInt8)) (hk : k ≤ 7) : In64 (rdN k st : Nat) := by
  have h := rdN_lt k st
  have h2 : 256 ^ k ≤ 256 ^ 7 := Nat.pow_le_pow_right (by decide) hk
  have h3 : (256 : Nat) ^ 7 = 72057594037927936 := by decide
  unfold In64; omega
theorem wrap64_in (n : Int) : In64 (wrap64 n) := by unfold In64 wrap64; omega
theorem rdP_ok (l : List UInt8) : (rdP l).Ok := ⟨rdN_in _ _ (by decide), rdN_in _ _ (by decide), rdN_in _ _ (by decide), wrap64_in _, rdN_in _ _ (by decide)⟩
theorem zero_ok : PackV.zero.Ok := by unfold PackV.zero PackV.Ok In64; simp
theorem packB_bounds {p : PackV} (h : packB p = true) : (1 ≤ p.kind ∧ p.kind ≤ 5) ∧ (1 ≤ p.from_ ∧ p.from_ ≤ 8) ∧ (1 ≤ p.to ∧ p.to ≤ 8) ∧ tidB p.tid = true ∧ (0 ≤ p.n ∧ p.n ≤ 10) := by
  unfold packB at h
  simp only [Bool.and_eq_true, decide_eq_true_eq] at h
  obtain ⟨⟨⟨⟨⟨⟨h1, h2⟩, h3⟩, h4⟩, h5⟩, h6⟩, h7⟩ := h
  unfold brokerB at h3 h4
  simp at h3 h4
  refine ⟨⟨h1, h2⟩, by omega, by omega, h5, ?_⟩
  split at h6 <;> simp at h6 <;> omega
theorem pk_read (p : PackV) (hp : p.Ok) (hb : packB p = true) : rdP (pkB p) = p ∧ s6 (pkB p) = some [] := by
  obtain ⟨⟨a1, a2⟩, ⟨b1, b2⟩, ⟨c1, c2⟩, _, ⟨e1, e2⟩⟩ := packB_bounds hb
  obtain ⟨k, f, t, d, n, y⟩ := p
  have hd := hp.2.2.2.1
  unfold In64 at hd
  simp only at a1 a2 b1 b2 c1 c2 e1 e2 hd
  have e : pkB ⟨k, f, t, d, n, y⟩ = smallB k ++ (smallB f ++ (smallB t ++ (longB d ++ (smallB n ++ (truthB y ++ []))))) := by simp [pkB]
  rw [e]
  have r1 := rd_small k (smallB f ++ (smallB t ++ (longB d ++ (smallB n ++ (truthB y ++ [])))))
  have r2 := rd_small f (smallB t ++ (longB d ++ (smallB n ++ (truthB y ++ []))))
  have r3 := rd_small t (longB d ++ (smallB n ++ (truthB y ++ [])))
  have r4 := rd_long d hd (smallB n ++ (truthB y ++ []))
  have r5 := rd_small n (truthB y ++ [])
  have r6 := rd_truth y []
  unfold rdP s6 s5 s4 s3 s2 s1
  rw [r1.1, r1.2, r2.1, r2.2, r3.1, r3.2, r4.1, r4.2, r5.1, r5.2, r6.1, r6.2]
  refine ⟨?_, rfl⟩
  congr 1 <;> omega
theorem body_wire (p : PackV) : bodyOf (wireB p) = pkB p := by
  unfold bodyOf
  rw [wireB_length]
  show (wireB p).take 17 = pkB p
  unfold wireB sealB
  rw [List.append_assoc, List.take_append_of_le_length (by rw [pkB_length]; omega), List.take_of_length_le (by rw [pkB_length]; omega)]
theorem dec_wire (p : PackV) (hp : p.Ok) (hb : packB p = true) : decW (wireB p) = true ∧ decPk (wireB p) = p := by
  obtain ⟨h1, h2⟩ := pk_read p hp hb
  have h : decW (wireB p) = true := by
    unfold decW
    rw [body_wire, h1, h2, wireB_length, hb]
    simp [endOf]
  refine ⟨h, ?_⟩
  unfold decPk
  rw [h, body_wire, h1]; rfl
theorem dec_is {l : List UInt8} (h : decW l = true) : packB (decPk l) = true ∧ wireB (decPk l) = l ∧ (decPk l).Ok := by
  have h0 := h
  unfold decW at h
  simp only [Bool.and_eq_true, decide_eq_true_eq] at h
  unfold decPk
  rw [h0]
  exact ⟨h.2.2.1, h.2.2.2, rdP_ok _⟩
theorem decPk_ok (l : List UInt8) : (decPk l).Ok := by
  unfold decPk; split
  · exact rdP_ok _
  · exact zero_ok
theorem wireB_inj {p q : PackV} (hp : p.Ok) (hq : q.Ok) (h1 : packB p = true) (h2 : packB q = true) (h : wireB p = wireB q) : p = q := by
  rw [← (dec_wire p hp h1).2, h, (dec_wire q hq h2).2]
theorem decPk_bad {l : List UInt8} (h : decW l = false) : decPk l = PackV.zero := by unfold decPk; rw [h]; rfl
end Go.Proofs.YtlabhbjampkhpaaGreat
