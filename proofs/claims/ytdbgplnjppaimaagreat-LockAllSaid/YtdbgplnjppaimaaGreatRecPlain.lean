/- Records: which may be, their bytes, and back: plain facts, no program in sight. -/
import Derived.Test.YtdbgplnjppaimaaGreatRound
open Go Go.RowKit
namespace Go.Proofs.YtdbgplnjppaimaaGreat

/-! ### all of the first -/
def allN (n : Nat) (p : Nat → Bool) : Bool := (List.range n).all p
theorem allN_succ (n : Nat) (p : Nat → Bool) : allN (n + 1) p = (allN n p && p n) := by simp [allN, List.range_succ]
theorem allN_false {n k : Nat} {p : Nat → Bool} (h : k < n) (hp : p k = false) : allN n p = false := by
  rw [allN, List.all_eq_false]
  exact ⟨k, by simpa using h, by simp [hp]⟩
theorem allN_iff {n : Nat} {p : Nat → Bool} : allN n p = true ↔ ∀ k, k < n → p k = true := by
  rw [allN, List.all_eq_true]
  exact ⟨fun h k hk => h k (by simpa using hk), fun h k hk => h k (by simpa using hk)⟩
theorem allN_congr {n : Nat} {p q : Nat → Bool} (h : ∀ k, k < n → p k = q k) : allN n p = allN n q := by
  rw [Bool.eq_iff_iff, allN_iff, allN_iff]
  exact ⟨fun g k hk => by rw [← h k hk]; exact g k hk, fun g k hk => by rw [h k hk]; exact g k hk⟩

/-! ### names, bodies, brokers, numbers -/
def lowB (x : UInt8) : Bool := decide (97 ≤ x.toNat) && decide (x.toNat ≤ 122)
def queueB (s : ByteArray) : Bool := allN s.size (fun i => lowB (s.data.toList.getD i 0)) && (decide (1 ≤ s.size) && decide (s.size ≤ 8))
def bodyB (s : ByteArray) : Bool := decide (s.size ≤ 60)
def brokerB (n : Int) : Bool := decide (1 ≤ n) && decide (n ≤ 8)
def homeOf (t : Int) : Int := if 1 ≤ t / 4294967296 ∧ t / 4294967296 ≤ 8 ∧ t % 4294967296 ≠ 0 then t / 4294967296 else 0
def tidB (t : Int) : Bool := decide (0 < homeOf t)
def makeOf (b n : Int) : Int := if brokerB b = true ∧ 1 ≤ n ∧ n < 4294967296 then b * 4294967296 + n else 0

theorem homeOf_le (t : Int) : 0 ≤ homeOf t ∧ homeOf t ≤ 8 := by unfold homeOf; split <;> omega
theorem tid_bounds {t : Int} (h : tidB t = true) : 4294967296 < t ∧ t < 38654705664 := by
  unfold tidB homeOf at h
  split at h
  · omega
  · simp at h

structure PutV where
  q : ByteArray
  b : ByteArray
instance : Inhabited PutV := ⟨⟨ByteArray.empty, ByteArray.empty⟩⟩
def putB (p : PutV) : Bool := queueB p.q && bodyB p.b
structure RecV where
  kind : Int
  tid : Int
  id : Int
  yes : Bool
  parts : List Int
  puts : List PutV
def RecV.none : RecV := ⟨0, 0, 0, false, [], []⟩

def riseAt (l : List Int) (i : Nat) : Bool := brokerB (l.getD i 0) && (decide (i = 0) || decide (l.getD (i - 1) 0 < l.getD i 0))
def risingB (l : List Int) (least most : Nat) : Bool := allN l.length (riseAt l) && (decide (least ≤ l.length) && decide (l.length ≤ most))
def putsB (l : List PutV) : Bool := allN l.length (fun i => putB (l.getD i default))

def leastOf (k : Int) : Nat := if k = 6 ∨ k = 9 then 1 else 0
def mostOf (k : Int) : Nat := if k = 6 ∨ k = 8 then 7 else if k = 9 then 1 else 0
def putsOf (k : Int) : Nat := if k = 4 ∨ k = 7 then 10 else 0
/-- May this record be? -/
def recB (r : RecV) : Bool :=
  (decide (1 ≤ r.kind) && decide (r.kind ≤ 9)) && tidB r.tid && (if r.kind = 2 then tidB r.id else decide (r.id = 0)) && (if r.kind = 5 then true else !r.yes) &&
    risingB r.parts (leastOf r.kind) (mostOf r.kind) && decide (r.puts.length ≤ putsOf r.kind) && putsB r.puts

/-- Its bytes. -/
def partsB (l : List Int) : List UInt8 := l.flatMap smallB
def putsBytes (l : List PutV) : List UInt8 := l.flatMap fun p => textB p.q.data.toList ++ textB p.b.data.toList
def hasId (k : Int) : Bool := decide (k = 2)
def hasYes (k : Int) : Bool := decide (k = 5)
def hasParts (k : Int) : Bool := decide (k = 6 ∨ k = 8 ∨ k = 9)
def hasPuts (k : Int) : Bool := decide (k = 4 ∨ k = 7)
def encB (r : RecV) : List UInt8 :=
  smallB r.kind ++ longB r.tid ++ (if hasId r.kind then longB r.id else []) ++ (if hasYes r.kind then truthB r.yes else []) ++
    (if hasParts r.kind then smallB r.parts.length ++ partsB r.parts else []) ++ (if hasPuts r.kind then smallB r.puts.length ++ putsBytes r.puts else [])

/-! ### what is read -/
def readInts : Nat → Option (List UInt8) → List Int × Option (List UInt8)
  | 0, st => ([], st)
  | _ + 1, none => ([], none)
  | n + 1, some l => (((rdN 2 (some l) : Nat) : Int) :: (readInts n (rdS 2 (some l))).1, (readInts n (rdS 2 (some l))).2)
def readPuts : Nat → Option (List UInt8) → List PutV × Option (List UInt8)
  | 0, st => ([], st)
  | _ + 1, none => ([], none)
  | n + 1, some l => (⟨bstr (rdT (some l)), bstr (rdT (rdTs (some l)))⟩ :: (readPuts n (rdTs (rdTs (some l)))).1, (readPuts n (rdTs (rdTs (some l)))).2)
def stK (l : List UInt8) : Option (List UInt8) := rdS 2 (some l)
def kindR (l : List UInt8) : Int := (rdN 2 (some l) : Nat)
def tidR (l : List UInt8) : Int := wrap64 (rdN 8 (stK l) : Nat)
def st2 (l : List UInt8) : Option (List UInt8) := rdS 8 (stK l)
def idR (k : Int) (st : Option (List UInt8)) : Int := if hasId k then wrap64 (rdN 8 st : Nat) else 0
def idS (k : Int) (st : Option (List UInt8)) : Option (List UInt8) := if hasId k then rdS 8 st else st
def yesR (k : Int) (st : Option (List UInt8)) : Bool := if hasYes k then decide (rdN 1 st = 1) else false
def yesS (k : Int) (st : Option (List UInt8)) : Option (List UInt8) := if hasYes k then rdTr st else st
def partsR (k : Int) (st : Option (List UInt8)) : List Int := if hasParts k then (readInts (rdN 2 st) (rdS 2 st)).1 else []
def partsS (k : Int) (st : Option (List UInt8)) : Option (List UInt8) := if hasParts k then (readInts (rdN 2 st) (rdS 2 st)).2 else st
def putsR (k : Int) (st : Option (List UInt8)) : List PutV := if hasPuts k then (readPuts (rdN 2 st) (rdS 2 st)).1 else []
def putsS (k : Int) (st : Option (List UInt8)) : Option (List UInt8) := if hasPuts k then (readPuts (rdN 2 st) (rdS 2 st)).2 else st
/-- The record that is read, and what is left. -/
def decV (l : List UInt8) : RecV :=
  let k := kindR l
  let s1 := st2 l
  let s2 := idS k s1
  let s3 := yesS k s2
  let s4 := partsS k s3
  ⟨k, tidR l, idR k s1, yesR k s2, partsR k s3, putsR k s4⟩
def decS (l : List UInt8) : Option (List UInt8) :=
  let k := kindR l
  putsS k (partsS k (yesS k (idS k (st2 l))))
def decOk (l : List UInt8) : Bool := endOf (decS l) && recB (decV l)

/-! ### what was put is read -/
theorem readInts_put (ps : List Int) (h : ∀ n ∈ ps, 0 ≤ n ∧ n < 65536) (r : List UInt8) : readInts ps.length (some (partsB ps ++ r)) = (ps, some r) := by
  induction ps with
  | nil => rfl
  | cons n ps ih =>
    have hn := h n (by simp)
    have e : partsB (n :: ps) ++ r = smallB n ++ (partsB ps ++ r) := by simp [partsB]
    obtain ⟨h1, h2⟩ := rd_small n (partsB ps ++ r)
    rw [List.length_cons, e, readInts, h1, h2, ih (fun m hm => h m (by simp [hm]))]
    have : (((n % 65536).toNat : Nat) : Int) = n := by omega
    rw [this]
theorem bstr_toList (s : ByteArray) : bstr s.data.toList = s := by simp [bstr]
theorem text_all (s : ByteArray) (h : s.size < 65536) : s.data.toList.take (s.data.toList.length % 65536) = s.data.toList := by
  rw [ba_length, Nat.mod_eq_of_lt h, List.take_of_length_le (by rw [ba_length]; exact Nat.le_refl _)]
theorem readPuts_put (ps : List PutV) (h : ∀ p ∈ ps, p.q.size < 65536 ∧ p.b.size < 65536) (r : List UInt8) : readPuts ps.length (some (putsBytes ps ++ r)) = (ps, some r) := by
  induction ps with
  | nil => rfl
  | cons p ps ih =>
    obtain ⟨hq, hb⟩ := h p (by simp)
    have e : putsBytes (p :: ps) ++ r = textB p.q.data.toList ++ (textB p.b.data.toList ++ (putsBytes ps ++ r)) := by simp [putsBytes]
    obtain ⟨h1, h2⟩ := rd_text p.q.data.toList (textB p.b.data.toList ++ (putsBytes ps ++ r))
    obtain ⟨h3, h4⟩ := rd_text p.b.data.toList (putsBytes ps ++ r)
    rw [List.length_cons, e, readPuts, h1, h2, h3, h4, ih (fun m hm => h m (by simp [hm])), text_all _ hq, text_all _ hb, bstr_toList, bstr_toList]

theorem brokerB_iff {n : Int} : brokerB n = true ↔ 1 ≤ n ∧ n ≤ 8 := by simp [brokerB]
theorem rising_mem {l : List Int} {a b : Nat} (h : risingB l a b = true) : l.length ≤ b ∧ a ≤ l.length ∧ ∀ n ∈ l, 1 ≤ n ∧ n ≤ 8 := by
  unfold risingB at h
  simp only [Bool.and_eq_true, decide_eq_true_eq] at h
  refine ⟨h.2.2, h.2.1, fun n hn => ?_⟩
  obtain ⟨i, hi, rfl⟩ := List.getElem_of_mem hn
  have := allN_iff.1 h.1 i hi
  unfold riseAt at this
  simp only [Bool.and_eq_true] at this
  have h2 := brokerB_iff.1 this.1
  rw [List.getD_eq_getElem?_getD, List.getElem?_eq_getElem hi, Option.getD_some] at h2
  exact h2
theorem puts_mem {l : List PutV} (h : putsB l = true) : ∀ p ∈ l, putB p = true := by
  intro p hp
  obtain ⟨i, hi, rfl⟩ := List.getElem_of_mem hp
  have := allN_iff.1 h i hi
  rw [List.getD_eq_getElem?_getD, List.getElem?_eq_getElem hi, Option.getD_some] at this
  exact this
theorem putB_sizes {p : PutV} (h : putB p = true) : p.q.size ≤ 8 ∧ p.b.size ≤ 60 := by
  unfold putB queueB bodyB at h
  simp only [Bool.and_eq_true, decide_eq_true_eq] at h
  exact ⟨h.1.2.2, h.2⟩

theorem recB_iff (r : RecV) : recB r = true ↔ (1 ≤ r.kind ∧ r.kind ≤ 9) ∧ tidB r.tid = true ∧ (if r.kind = 2 then tidB r.id = true else r.id = 0) ∧ (r.kind = 5 ∨ r.yes = false) ∧
    risingB r.parts (leastOf r.kind) (mostOf r.kind) = true ∧ r.puts.length ≤ putsOf r.kind ∧ putsB r.puts = true := by
  unfold recB
  by_cases h2 : r.kind = 2 <;> by_cases h5 : r.kind = 5 <;> simp [h2, h5, and_assoc]

/-- What was written is read again. -/
theorem dec_enc (r : RecV) (h : recB r = true) : decV (encB r) = r ∧ decS (encB r) = some [] := by
  have h0 := (recB_iff r).1 h
  obtain ⟨⟨hk1, hk9⟩, ht, hid, hy, hr, hp, hpp⟩ := h0
  obtain ⟨k, t, i, y, ps, us⟩ := r
  simp only at hk1 hk9 ht hid hy hr hp hpp
  have bt := tid_bounds ht
  obtain ⟨hr1, hr0, hr2⟩ := rising_mem hr
  have hm : mostOf k ≤ 7 := by unfold mostOf; split <;> (try split) <;> omega
  have hpo : putsOf k ≤ 10 := by unfold putsOf; split <;> omega
  have hps : ∀ n ∈ ps, 0 ≤ n ∧ n < 65536 := fun n hn => by have := hr2 n hn; omega
  have hus : ∀ p ∈ us, p.q.size < 65536 ∧ p.b.size < 65536 := fun p hp => by have := putB_sizes (puts_mem hpp p hp); omega
  have bi : -9223372036854775808 ≤ i ∧ i ≤ 9223372036854775807 := by
    split at hid
    · have := tid_bounds hid; omega
    · omega
  generalize hX4 : (if hasPuts k then smallB us.length ++ putsBytes us else []) = X4
  generalize hX3 : (if hasParts k then smallB ps.length ++ partsB ps else []) ++ X4 = X3
  generalize hX2 : (if hasYes k then truthB y else []) ++ X3 = X2
  generalize hX1 : (if hasId k then longB i else []) ++ X2 = X1
  have hE : encB ⟨k, t, i, y, ps, us⟩ = smallB k ++ (longB t ++ X1) := by
    unfold encB; simp only [← hX1, ← hX2, ← hX3, ← hX4, List.append_assoc]
  obtain ⟨a1, a2⟩ := rd_small k (longB t ++ X1)
  obtain ⟨b1, b2⟩ := rd_long t (by omega) X1
  have eK : kindR (encB ⟨k, t, i, y, ps, us⟩) = k := by rw [hE, kindR, a1]; omega
  have eT : tidR (encB ⟨k, t, i, y, ps, us⟩) = t := by rw [hE, tidR, stK, a2, b1]
  have eS : st2 (encB ⟨k, t, i, y, ps, us⟩) = some X1 := by rw [hE, st2, stK, a2, b2]
  have eI : idR k (some X1) = i ∧ idS k (some X1) = some X2 := by
    unfold idR idS
    by_cases hh : hasId k = true
    · rw [if_pos hh] at hX1
      rw [if_pos hh, if_pos hh, ← hX1]
      exact rd_long i bi X2
    · rw [if_neg hh, List.nil_append] at hX1
      rw [if_neg hh, if_neg hh, hX1]
      refine ⟨?_, rfl⟩
      have : ¬ k = 2 := by simpa [hasId] using hh
      rw [if_neg this] at hid
      exact hid.symm
  have eY : yesR k (some X2) = y ∧ yesS k (some X2) = some X3 := by
    unfold yesR yesS
    by_cases hh : hasYes k = true
    · rw [if_pos hh] at hX2
      rw [if_pos hh, if_pos hh, ← hX2]
      exact rd_truth y X3
    · rw [if_neg hh, List.nil_append] at hX2
      rw [if_neg hh, if_neg hh, hX2]
      refine ⟨?_, rfl⟩
      have : ¬ k = 5 := by simpa [hasYes] using hh
      rcases hy with hy | hy
      · exact absurd hy this
      · exact hy.symm
  have eP : partsR k (some X3) = ps ∧ partsS k (some X3) = some X4 := by
    unfold partsR partsS
    by_cases hh : hasParts k = true
    · rw [if_pos hh, List.append_assoc] at hX3
      rw [if_pos hh, if_pos hh, ← hX3]
      obtain ⟨c1, c2⟩ := rd_small (ps.length : Int) (partsB ps ++ X4)
      have e : ((ps.length : Int) % 65536).toNat = ps.length := by omega
      rw [c1, c2, e, readInts_put ps hps X4]
      exact ⟨rfl, rfl⟩
    · rw [if_neg hh, List.nil_append] at hX3
      rw [if_neg hh, if_neg hh, hX3]
      refine ⟨?_, rfl⟩
      have h6 : ¬ (k = 6 ∨ k = 8 ∨ k = 9) := by simpa [hasParts] using hh
      have : mostOf k = 0 := by unfold mostOf; rw [if_neg (by omega), if_neg (by omega)]
      exact (List.eq_nil_of_length_eq_zero (by omega)).symm
  have eU : putsR k (some X4) = us ∧ putsS k (some X4) = some [] := by
    unfold putsR putsS
    by_cases hh : hasPuts k = true
    · rw [if_pos hh] at hX4
      rw [if_pos hh, if_pos hh, ← hX4]
      obtain ⟨c1, c2⟩ := rd_small (us.length : Int) (putsBytes us)
      have e : ((us.length : Int) % 65536).toNat = us.length := by omega
      have := readPuts_put us hus []
      rw [List.append_nil] at this
      rw [c1, c2, e, this]
      exact ⟨rfl, rfl⟩
    · rw [if_neg hh] at hX4
      rw [if_neg hh, if_neg hh, ← hX4]
      refine ⟨?_, rfl⟩
      have h6 : ¬ (k = 4 ∨ k = 7) := by simpa [hasPuts] using hh
      have : putsOf k = 0 := by unfold putsOf; rw [if_neg h6]
      exact (List.eq_nil_of_length_eq_zero (by omega)).symm
  unfold decV decS
  simp only [eK, eT, eS, eI.1, eI.2, eY.1, eY.2, eP.1, eP.2, eU.1, eU.2, and_self]
theorem decOk_enc (r : RecV) (h : recB r = true) : decOk (encB r) = true := by
  obtain ⟨h1, h2⟩ := dec_enc r h
  unfold decOk
  rw [h1, h2, h]
  rfl
end Go.Proofs.YtdbgplnjppaimaaGreat
