/- Any bytes that are read as a record are just its bytes: plain facts, no program in sight. -/
import Derived.Test.YtgbogbjifpijkaaRecPlain
open Go Go.RowKit
namespace Go.Proofs.Ytgbogbjifpijkaa

theorem leBytes_leNat (l : List UInt8) : leBytes l.length (leNat l) = l := by
  induction l with
  | nil => rfl
  | cons x l ih =>
    rw [List.length_cons, leBytes, leNat]
    have h := x.toNat_lt
    have e1 : (x.toNat + 256 * leNat l) / 256 = leNat l := by omega
    have e2 : UInt8.ofNat (x.toNat + 256 * leNat l) = x := by
      apply UInt8.toNat_inj.1
      rw [UInt8.toNat_ofNat']
      omega
    rw [e1, e2, ih]
theorem rd_inv {k : Nat} {l r : List UInt8} (h : rdS k (some l) = some r) : l = leBytes k (rdN k (some l)) ++ r ∧ rdN k (some l) < 256 ^ k := by
  refine ⟨?_, rdN_lt _ _⟩
  simp only [rdS] at h
  split at h
  · rename_i hk
    injection h with h
    subst h
    have hl : (l.take k).length = k := by rw [List.length_take]; omega
    have := leBytes_leNat (l.take k)
    rw [hl] at this
    simp only [rdN]
    rw [if_pos hk, this, List.take_append_drop]
  · cases h
theorem rd_small_inv {l r : List UInt8} (h : rdS 2 (some l) = some r) : l = smallB ((rdN 2 (some l) : Nat) : Int) ++ r ∧ rdN 2 (some l) < 65536 := by
  obtain ⟨h1, h2⟩ := rd_inv h
  refine ⟨?_, h2⟩
  have e : (((rdN 2 (some l) : Nat) : Int) % 18446744073709551616).toNat = rdN 2 (some l) := by omega
  rw [smallB, e]
  exact h1
theorem rd_long_inv {l r : List UInt8} (h : rdS 8 (some l) = some r) : l = longB (wrap64 ((rdN 8 (some l) : Nat) : Int)) ++ r := by
  obtain ⟨h1, h2⟩ := rd_inv h
  have e : (wrap64 ((rdN 8 (some l) : Nat) : Int) % 18446744073709551616).toNat = rdN 8 (some l) := by unfold wrap64; omega
  rw [longB, e]
  exact h1
theorem rd_truth_inv {l r : List UInt8} (h : rdTr (some l) = some r) : l = truthB (decide (rdN 1 (some l) = 1)) ++ r := by
  unfold rdTr at h
  split at h
  · cases h
  · rename_i hn
    obtain ⟨h1, h2⟩ := rd_inv h
    have e : rdN 1 (some l) = if decide (rdN 1 (some l) = 1) = true then 1 else 0 := by
      by_cases h3 : rdN 1 (some l) = 1
      · rw [h3]; rfl
      · rw [if_neg (by simpa using h3)]; omega
    rw [truthB, ← e]
    exact h1
theorem rd_text_inv {l r : List UInt8} (h : rdTs (some l) = some r) : l = textB (rdT (some l)) ++ r ∧ (rdT (some l)).length < 65536 := by
  unfold rdTs at h
  cases hs : rdS 2 (some l) with
  | none => rw [hs] at h; cases h
  | some m =>
    rw [hs] at h
    obtain ⟨h1, h2⟩ := rd_small_inv hs
    simp only [rdS] at h
    split at h
    · rename_i hk
      injection h with h
      subst h
      have e : rdT (some l) = m.take (rdN 2 (some l)) := by
        unfold rdT
        rw [hs]
        simp only
        rw [if_pos hk]
      have hl : (m.take (rdN 2 (some l))).length = rdN 2 (some l) := by rw [List.length_take]; omega
      rw [e, hl]
      refine ⟨?_, h2⟩
      rw [textB, hl, Nat.mod_eq_of_lt h2, List.take_of_length_le (by rw [hl]; exact Nat.le_refl _), List.append_assoc, List.take_append_drop]
      exact h1
    · cases h
theorem rdTs_none : rdTs none = none := by unfold rdTs; rfl
theorem rdTr_none : rdTr none = none := by unfold rdTr; simp [rdN, rdS]
theorem readInts_none (n : Nat) : (readInts n none).2 = none := by cases n <;> rfl
theorem readPuts_none (n : Nat) : (readPuts n none).2 = none := by cases n <;> rfl
theorem readInts_inv (n : Nat) : ∀ (l r : List UInt8), (readInts n (some l)).2 = some r → l = partsB (readInts n (some l)).1 ++ r ∧ (readInts n (some l)).1.length = n := by
  induction n with
  | zero => intro l r h; injection h with h; subst h; exact ⟨rfl, rfl⟩
  | succ n ih =>
    intro l r h
    simp only [readInts] at h ⊢
    cases hs : rdS 2 (some l) with
    | none => rw [hs, readInts_none] at h; cases h
    | some m =>
      rw [hs] at h
      obtain ⟨h1, h2⟩ := ih m r h
      obtain ⟨h3, _⟩ := rd_small_inv hs
      refine ⟨?_, by rw [List.length_cons, h2]⟩
      conv => lhs; rw [h3, h1]
      simp [partsB]
theorem bstr_list (l : List UInt8) : (bstr l).data.toList = l := by simp [bstr]
theorem readPuts_inv (n : Nat) : ∀ (l r : List UInt8), (readPuts n (some l)).2 = some r → l = putsBytes (readPuts n (some l)).1 ++ r ∧ (readPuts n (some l)).1.length = n := by
  induction n with
  | zero => intro l r h; injection h with h; subst h; exact ⟨rfl, rfl⟩
  | succ n ih =>
    intro l r h
    simp only [readPuts] at h ⊢
    cases hs : rdTs (some l) with
    | none => rw [hs, rdTs_none, readPuts_none] at h; cases h
    | some m =>
      rw [hs] at h
      cases hs2 : rdTs (some m) with
      | none => rw [hs2, readPuts_none] at h; cases h
      | some m2 =>
        rw [hs2] at h
        obtain ⟨h1, h2⟩ := ih m2 r h
        obtain ⟨h3, _⟩ := rd_text_inv hs
        obtain ⟨h4, _⟩ := rd_text_inv hs2
        refine ⟨?_, by rw [List.length_cons, h2]⟩
        conv => lhs; rw [h3, h4, h1]
        simp [putsBytes, bstr_list]

/-- What is a record's is just its bytes. -/
theorem enc_dec {l : List UInt8} (h : decOk l = true) : recB (decV l) = true ∧ encB (decV l) = l := by
  unfold decOk at h
  simp only [Bool.and_eq_true] at h
  obtain ⟨he, hr⟩ := h
  refine ⟨hr, ?_⟩
  have hend : decS l = some [] := by
    cases hd : decS l with
    | none => rw [hd] at he; cases he
    | some m =>
      rw [hd] at he
      have : m = [] := by
        unfold endOf at he
        exact List.eq_nil_of_length_eq_zero (of_decide_eq_true he)
      rw [this]
  have hV : decV l = ⟨kindR l, tidR l, idR (kindR l) (st2 l), yesR (kindR l) (idS (kindR l) (st2 l)), partsR (kindR l) (yesS (kindR l) (idS (kindR l) (st2 l))),
    putsR (kindR l) (partsS (kindR l) (yesS (kindR l) (idS (kindR l) (st2 l))))⟩ := rfl
  unfold decS at hend
  simp only at hend
  generalize hk : kindR l = k at hend hV
  -- backwards: none stays none
  have n4 : ∀ s, putsS k s = some [] → ∃ m, s = some m ∧ m = (if hasPuts k then smallB (putsR k (some m)).length ++ putsBytes (putsR k (some m)) else []) := by
    intro s hs
    unfold putsS at hs
    unfold putsR
    by_cases hh : hasPuts k = true
    · simp only [if_pos hh] at hs ⊢
      cases s with
      | none => rw [show rdS 2 (none : Option (List UInt8)) = none from rfl, readPuts_none] at hs; cases hs
      | some m =>
        refine ⟨m, rfl, ?_⟩
        cases h2 : rdS 2 (some m) with
        | none => rw [h2, readPuts_none] at hs; cases hs
        | some m2 =>
          rw [h2] at hs
          obtain ⟨a1, a2⟩ := readPuts_inv _ _ _ hs
          obtain ⟨a3, _⟩ := rd_small_inv h2
          rw [a2]
          conv => lhs; rw [a3, a1]
          rw [List.append_nil]
    · simp only [if_neg hh] at hs ⊢
      subst hs
      exact ⟨[], rfl, rfl⟩
  have n3 : ∀ s m, partsS k s = some m → ∃ m2, s = some m2 ∧ m2 = (if hasParts k then smallB (partsR k (some m2)).length ++ partsB (partsR k (some m2)) else []) ++ m := by
    intro s m hs
    unfold partsS at hs
    unfold partsR
    by_cases hh : hasParts k = true
    · simp only [if_pos hh] at hs ⊢
      cases s with
      | none => rw [show rdS 2 (none : Option (List UInt8)) = none from rfl, readInts_none] at hs; cases hs
      | some m0 =>
        refine ⟨m0, rfl, ?_⟩
        cases h2 : rdS 2 (some m0) with
        | none => rw [h2, readInts_none] at hs; cases hs
        | some m2 =>
          rw [h2] at hs
          obtain ⟨a1, a2⟩ := readInts_inv _ _ _ hs
          obtain ⟨a3, _⟩ := rd_small_inv h2
          rw [a2]
          conv => lhs; rw [a3, a1]
          rw [List.append_assoc]
    · simp only [if_neg hh] at hs ⊢
      subst hs
      exact ⟨m, rfl, rfl⟩
  have n2 : ∀ s m, yesS k s = some m → ∃ m2, s = some m2 ∧ m2 = (if hasYes k then truthB (yesR k (some m2)) else []) ++ m := by
    intro s m hs
    unfold yesS at hs
    unfold yesR
    by_cases hh : hasYes k = true
    · simp only [if_pos hh] at hs ⊢
      cases s with
      | none => rw [rdTr_none] at hs; cases hs
      | some m0 => exact ⟨m0, rfl, rd_truth_inv hs⟩
    · simp only [if_neg hh] at hs ⊢
      subst hs
      exact ⟨m, rfl, rfl⟩
  have n1 : ∀ s m, idS k s = some m → ∃ m2, s = some m2 ∧ m2 = (if hasId k then longB (idR k (some m2)) else []) ++ m := by
    intro s m hs
    unfold idS at hs
    unfold idR
    by_cases hh : hasId k = true
    · simp only [if_pos hh] at hs ⊢
      cases s with
      | none => cases hs
      | some m0 => exact ⟨m0, rfl, rd_long_inv hs⟩
    · simp only [if_neg hh] at hs ⊢
      subst hs
      exact ⟨m, rfl, rfl⟩
  obtain ⟨x4, e4, f4⟩ := n4 _ hend
  obtain ⟨x3, e3, f3⟩ := n3 _ _ e4
  obtain ⟨x2, e2, f2⟩ := n2 _ _ e3
  obtain ⟨x1, e1, f1⟩ := n1 _ _ e2
  have hs1 : rdS 8 (stK l) = some x1 := e1
  cases hK : stK l with
  | none => rw [hK] at hs1; cases hs1
  | some x0 =>
    rw [hK] at hs1
    have g8 := rd_long_inv hs1
    obtain ⟨g2, _⟩ := rd_small_inv (show rdS 2 (some l) = some x0 from hK)
    have gk : ((rdN 2 (some l) : Nat) : Int) = k := by rw [← hk]; rfl
    have gt : wrap64 ((rdN 8 (some x0) : Nat) : Int) = tidR l := by unfold tidR; rw [hK]
    rw [gk] at g2
    rw [gt] at g8
    rw [hV, e4, e3, e2, e1]
    unfold encB
    simp only
    conv => rhs; rw [g2, g8, f1, f2, f3, f4]
    simp only [List.append_assoc]
end Go.Proofs.Ytgbogbjifpijkaa
