/- A net, plain: packets in the order of their bytes. -/
import Derived.Test.YtlabhbjampkhpaaGreatBagTS
import Derived.Test.YtlabhbjampkhpaaGreatPk
open Go Go.Proofs Go.RowKit
namespace Go.Proofs.YtlabhbjampkhpaaGreat
/-- Bytes as one number, the first the greatest. -/
def beK : List UInt8 → Nat
  | [] => 0
  | x :: l => x.toNat * 256 ^ l.length + beK l
theorem beK_lt : ∀ l : List UInt8, beK l < 256 ^ l.length
  | [] => by simp [beK]
  | x :: l => by
    have h := beK_lt l
    have hx := x.toNat_lt
    rw [beK, List.length_cons, Nat.pow_succ]
    have h2 : x.toNat * 256 ^ l.length ≤ 255 * 256 ^ l.length := Nat.mul_le_mul_right _ (by omega)
    omega
theorem beK_step (a b p q P : Nat) (hp : p < P) (hq : q < P) : (a * P + p < b * P + q ↔ a < b ∨ a = b ∧ p < q) ∧ (a * P + p = b * P + q ↔ a = b ∧ p = q) := by
  rcases Nat.lt_trichotomy a b with h | h | h
  · have h2 : (a + 1) * P ≤ b * P := Nat.mul_le_mul_right _ h
    rw [Nat.add_mul, Nat.one_mul] at h2
    constructor <;> constructor <;> intro <;> omega
  · subst h
    constructor <;> constructor <;> intro <;> omega
  · have h2 : (b + 1) * P ≤ a * P := Nat.mul_le_mul_right _ h
    rw [Nat.add_mul, Nat.one_mul] at h2
    constructor <;> constructor <;> intro <;> omega
theorem less_key : ∀ (x y : List UInt8), x.length = y.length → (Op.bytesLess x y = decide (beK x < beK y)) ∧ (beK x = beK y ↔ x = y)
  | [], [], _ => by simp [Op.bytesLess, beK]
  | [], b :: y, h => by simp at h
  | a :: x, [], h => by simp at h
  | a :: x, b :: y, h => by
    have hl : x.length = y.length := by simpa using h
    obtain ⟨h1, h2⟩ := less_key x y hl
    have hs := beK_step a.toNat b.toNat (beK x) (beK y) (256 ^ y.length) (hl ▸ beK_lt x) (beK_lt y)
    rw [beK, beK, hl]
    constructor
    · rw [Bool.eq_iff_iff, decide_eq_true_eq, hs.1]
      rw [bytesLess_eq] at h1 ⊢
      have h3 : x < y ↔ beK x < beK y := by simpa using h1
      rw [decide_eq_true_eq, List.cons_lt_cons_iff, h3, UInt8.lt_iff_toNat_lt, ← UInt8.toNat_inj]
    · rw [hs.2, h2, UInt8.toNat_inj]; simp
def okS (s : ByteArray) : Prop := s.size = 21
def keyS (s : ByteArray) : Int := (beK s.data.toList : Int)
theorem ba_toList (s : ByteArray) : s.toList = s.data.toList := ByteArray.toList_eq s
theorem cmpS_key : KeyCS cmpS keyS okS where
  lt x y hx hy := by
    have hl : x.data.toList.length = y.data.toList.length := by rw [ba_length, ba_length, hx, hy]
    obtain ⟨h1, h2⟩ := less_key _ _ hl
    unfold cmpS keyS
    rw [ba_toList, ba_toList, h1]
    by_cases h : beK x.data.toList < beK y.data.toList
    · simp [h]
    · simp [h]; split <;> simp
  eq x y hx hy := by
    have hl : x.data.toList.length = y.data.toList.length := by rw [ba_length, ba_length, hx, hy]
    obtain ⟨h1, h2⟩ := less_key _ _ hl
    unfold cmpS keyS
    rw [ba_toList, ba_toList, h1]
    by_cases h : beK x.data.toList < beK y.data.toList
    · simp [h]; omega
    · have e1 : decide (beK x.data.toList < beK y.data.toList) = false := by simpa using h
      rw [e1, if_neg (by simp)]
      by_cases he : x.data.toList = y.data.toList
      · rw [he]; simp
      · have hn : ¬ beK x.data.toList = beK y.data.toList := fun e => he (h2.1 e)
        have e2 : (x.data.toList == y.data.toList) = false := by simpa using he
        rw [e2, if_neg (by simp)]
        constructor
        · intro e; omega
        · intro e; omega
theorem keyS_inj {x y : ByteArray} (hx : okS x) (hy : okS y) (h : keyS x = keyS y) : x = y := by
  have hl : x.data.toList.length = y.data.toList.length := by rw [ba_length, ba_length, hx, hy]
  have h2 := (less_key _ _ hl).2.1 (by unfold keyS at h; omega)
  obtain ⟨⟨a⟩⟩ := x
  obtain ⟨⟨b⟩⟩ := y
  simpa using h2
/-- What is in a net's bag. -/
structure GoodL (l : List (ByteArray × Int)) : Prop where
  srt : SortKS keyS l
  ok : ∀ p ∈ l, okS p.1
  cnt : ∀ p ∈ l, 1 ≤ p.2
theorem GoodL.nil : GoodL [] := ⟨List.Pairwise.nil, by simp, by simp⟩
theorem expS_append (l m : List (ByteArray × Int)) : expS (l ++ m) = expS l ++ expS m := List.flatMap_append
theorem expS_cons (p : ByteArray × Int) (l : List (ByteArray × Int)) : expS (p :: l) = List.replicate p.2.toNat p.1 ++ expS l := rfl
theorem expS_mem {l : List (ByteArray × Int)} {x : ByteArray} (h : x ∈ expS l) : ∃ p ∈ l, p.1 = x := by
  unfold expS at h
  obtain ⟨p, hp, hx⟩ := List.mem_flatMap.1 h
  exact ⟨p, hp, (List.eq_of_mem_replicate hx).symm⟩
theorem exp_len : ∀ l : List (ByteArray × Int), (∀ p ∈ l, 1 ≤ p.2) → ((expS l).length : Int) = sumS l ∧ l.length ≤ (expS l).length ∧ ∀ p ∈ l, p.2 ≤ (expS l).length
  | [], _ => by simp [expS, sumS]
  | p :: l, h => by
    obtain ⟨h1, h2, h3⟩ := exp_len l (fun q hq => h q (List.mem_cons_of_mem _ hq))
    have hp := h p (by simp)
    rw [expS_cons, List.length_append, List.length_replicate]
    refine ⟨by simp [sumS] at h1 ⊢; omega, by simp; omega, fun q hq => ?_⟩
    rcases List.mem_cons.1 hq with rfl | hq
    · omega
    · have := h3 q hq; omega
/-- A text in its place. -/
def insS (t : ByteArray) (L : List ByteArray) : List ByteArray := (L.takeWhile fun x => decide (keyS x ≤ keyS t)) ++ t :: (L.dropWhile fun x => decide (keyS x ≤ keyS t))
theorem ins_at {t : ByteArray} {A B : List ByteArray} (hA : ∀ x ∈ A, keyS x ≤ keyS t) (hB : ∀ x ∈ B, keyS t < keyS x) : insS t (A ++ B) = A ++ t :: B := by
  unfold insS
  have h1 : (A ++ B).takeWhile (fun x => decide (keyS x ≤ keyS t)) = A := by
    rw [List.takeWhile_append_of_pos (fun x hx => by simpa using hA x hx)]
    cases B with
    | nil => simp
    | cons b B => rw [List.takeWhile_cons_of_neg (by have := hB b (by simp); simp; omega), List.append_nil]
  have h2 : (A ++ B).dropWhile (fun x => decide (keyS x ≤ keyS t)) = B := by
    rw [List.dropWhile_append_of_pos (fun x hx => by simpa using hA x hx)]
    cases B with
    | nil => simp
    | cons b B => rw [List.dropWhile_cons_of_neg (by have := hB b (by simp); simp; omega)]
  rw [h1, h2]
theorem add_good {l : List (ByteArray × Int)} (h : GoodL l) {t : ByteArray} (ht : okS t) (n : Int) : GoodL (addWS cmpS l t n) := by
  obtain ⟨h1, h2, _, _, _, h6⟩ := add_allS cmpS_key h.srt h.ok ht n
  refine ⟨h1, h2, fun p hp => ?_⟩
  rcases h6 p hp with e | e
  · exact h.cnt p e
  · exact e.2
/-- One more. -/
theorem add_one {l : List (ByteArray × Int)} (h : GoodL l) {t : ByteArray} (ht : okS t) : expS (addWS cmpS l t 1) = insS t (expS l) := by
  obtain ⟨A, B, hl, hA, hh⟩ := add_splitS cmpS_key h.srt h.ok ht 1
  have hEA : ∀ x ∈ expS A, keyS x ≤ keyS t := fun x hx => by
    obtain ⟨p, hp, rfl⟩ := expS_mem hx
    have := hA p hp; omega
  rcases hh with ⟨y, m, B', rfl, hy, hB', _, ha⟩ | ⟨hB, _, ha⟩
  · have hyt : y = t := keyS_inj (h.ok (y, m) (by rw [hl]; simp)) ht hy
    have hm := h.cnt (y, m) (by rw [hl]; simp)
    simp only at hm
    subst hyt
    rw [ha, if_neg (by omega), hl, expS_append, expS_append, expS_cons, expS_cons, ← List.append_assoc, ← List.append_assoc]
    have e : (max (m + 1) 0).toNat = m.toNat + 1 := by omega
    rw [ins_at (A := expS A ++ List.replicate m.toNat y) (B := expS B')]
    · simp only [e, List.replicate_succ', List.append_assoc, List.singleton_append]
    · intro x hx
      rcases List.mem_append.1 hx with e | e
      · exact hEA x e
      · rw [List.eq_of_mem_replicate e]; exact Int.le_refl _
    · intro x hx
      obtain ⟨p, hp, rfl⟩ := expS_mem hx
      exact hB' p hp
  · rw [ha, if_neg (by omega), hl, expS_append, expS_append, expS_cons, ins_at hEA]
    · rfl
    · intro x hx
      obtain ⟨p, hp, rfl⟩ := expS_mem hx
      exact hB p hp
/-- One less. -/
theorem add_less {l : List (ByteArray × Int)} (h : GoodL l) {t : ByteArray} (ht : okS t) {i : Nat} (hi : (expS l)[i]? = some t) : expS (addWS cmpS l t (-1)) = (expS l).eraseIdx i := by
  obtain ⟨A, B, hl, hA, hh⟩ := add_splitS cmpS_key h.srt h.ok ht (-1)
  have nA : t ∉ expS A := fun e => by obtain ⟨p, hp, e2⟩ := expS_mem e; have := hA p hp; rw [e2] at this; omega
  rcases hh with ⟨y, m, B', rfl, hy, hB', _, ha⟩ | ⟨hB, _, ha⟩
  · have hyt : y = t := keyS_inj (h.ok (y, m) (by rw [hl]; simp)) ht hy
    have hm := h.cnt (y, m) (by rw [hl]; simp)
    simp only at hm
    subst hyt
    have nB : y ∉ expS B' := fun e => by obtain ⟨p, hp, e2⟩ := expS_mem e; have := hB' p hp; rw [e2] at this; omega
    have hnew : expS (addWS cmpS l y (-1)) = expS A ++ (List.replicate (m.toNat - 1) y ++ expS B') := by
      rw [ha]
      by_cases h1 : m = 1
      · subst h1; simp [expS_append]
      · rw [if_neg (by omega), expS_append, expS_cons]
        have e : (max (m + -1) 0).toNat = m.toNat - 1 := by omega
        simp only [e]
    rw [hnew]
    rw [hl, expS_append, expS_cons] at hi ⊢
    simp only at hi ⊢
    have hge : (expS A).length ≤ i := by
      rcases Nat.lt_or_ge i (expS A).length with e | e
      · rw [List.getElem?_append_left e] at hi
        exact absurd (List.mem_of_getElem? hi) nA
      · exact e
    rw [List.getElem?_append_right hge] at hi
    rw [List.eraseIdx_append_of_length_le hge]
    congr 1
    generalize i - (expS A).length = j at hi ⊢
    have hlt : j < m.toNat := by
      rcases Nat.lt_or_ge j m.toNat with e | e
      · exact e
      · rw [List.getElem?_append_right (by simpa using e)] at hi
        exact absurd (List.mem_of_getElem? hi) nB
    rw [List.eraseIdx_append_of_lt_length (by simpa using hlt), List.eraseIdx_replicate, if_pos hlt]
  · exfalso
    have hm := List.mem_of_getElem? hi
    rw [hl, expS_append] at hm
    rcases List.mem_append.1 hm with e | e
    · exact nA e
    · obtain ⟨p, hp, e2⟩ := expS_mem e; have := hB p hp; rw [e2] at this; omega
end Go.Proofs.YtlabhbjampkhpaaGreat
