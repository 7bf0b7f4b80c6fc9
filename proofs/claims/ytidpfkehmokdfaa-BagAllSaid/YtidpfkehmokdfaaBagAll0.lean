/- For BagAll: the law's list is the bag's, spelled out; kinds one behind the other. Plain; and the bag's contracts beside the law's own row. -/
import Derived.Test.YtidpfkehmokdfaaBy6
import Derived.Test.YtidpfkehmokdfaaRowsI
open Go Go.Proofs Go.RowKit
namespace Go.Proofs.Ytidpfkehmokdfaa
theorem expI_append (l m : List (Int × Int)) : expI (l ++ m) = expI l ++ expI m := List.flatMap_append
theorem expI_cons (p : Int × Int) (l : List (Int × Int)) : expI (p :: l) = List.replicate p.2.toNat p.1 ++ expI l := rfl
theorem expI_mem {l : List (Int × Int)} {x : Int} (h : x ∈ expI l) : ∃ p ∈ l, p.1 = x := by
  obtain ⟨p, hp, hx⟩ := List.mem_flatMap.1 h
  exact ⟨p, hp, (List.mem_replicate.1 hx).2.symm⟩
theorem expI_len : ∀ l : List (Int × Int), (∀ p ∈ l, 1 ≤ p.2) → ((expI l).length : Int) = sumI l
  | [], _ => rfl
  | p :: l, h => by
    have ih := expI_len l (fun q hq => h q (List.mem_cons_of_mem _ hq))
    have hp := h p (List.mem_cons_self ..)
    have e : sumI (p :: l) = p.2 + sumI l := by simp [sumI]
    rw [expI_cons, List.length_append, List.length_replicate, e]
    omega
def cP (c : Int → Int → Int) (L : List Int) (x : Int) (k : Nat) : Bool := match L[k]? with
  | some y => decide (c y x < 0)
  | none => false
def eP (L : List Int) (x : Int) (k : Nat) : Bool := match L[k]? with
  | some y => decide (y = x)
  | none => false
theorem cP_in {c : Int → Int → Int} {L : List Int} {x : Int} {k : Nat} (hk : k < L.length) : cP c L x k = decide (c L[k] x < 0) := by unfold cP; rw [List.getElem?_eq_getElem hk]
theorem cP_out {c : Int → Int → Int} {L : List Int} {x : Int} {k : Nat} (hk : L.length ≤ k) : cP c L x k = false := by unfold cP; rw [List.getElem?_eq_none hk]
theorem eP_in {L : List Int} {x : Int} {k : Nat} (hk : k < L.length) : eP L x k = decide (L[k] = x) := by unfold eP; rw [List.getElem?_eq_getElem hk]
theorem eP_out {L : List Int} {x : Int} {k : Nat} (hk : L.length ≤ k) : eP L x k = false := by unfold eP; rw [List.getElem?_eq_none hk]
theorem cP_lt {c : Int → Int → Int} {L : List Int} {x : Int} {k : Nat} (h : cP c L x k = true) : k < L.length := by
  apply Classical.byContradiction; intro e; rw [cP_out (by omega)] at h; cases h
theorem eP_lt {L : List Int} {x : Int} {k : Nat} (h : eP L x k = true) : k < L.length := by
  apply Classical.byContradiction; intro e; rw [eP_out (by omega)] at h; cases h
theorem cP_step {c : Int → Int → Int} {L : List Int} {x : Int} {k : Nat} (h1 : ∀ y ∈ L.take k, c y x < 0) (h2 : cP c L x k = true) : ∀ y ∈ L.take (k + 1), c y x < 0 := by
  have hk := cP_lt h2
  rw [cP_in hk] at h2
  intro y hy
  rw [List.take_succ_eq_append_getElem hk] at hy
  rcases List.mem_append.1 hy with h | h
  · exact h1 y h
  · rw [List.mem_singleton] at h; subst h; exact of_decide_eq_true h2
theorem eP_step {L : List Int} {x : Int} {k s : Nat} (h1 : (L.drop k).take s = List.replicate s x) (h2 : eP L x (k + s) = true) : (L.drop k).take (s + 1) = List.replicate (s + 1) x := by
  have hk := eP_lt h2
  rw [eP_in hk] at h2
  have hd : s < (L.drop k).length := by rw [List.length_drop]; omega
  rw [List.take_succ_eq_append_getElem hd, h1, List.replicate_succ', List.getElem_drop, of_decide_eq_true h2]
/-- Where the search ends. -/
theorem k_uniq {c : Int → Int → Int} {P Q : List Int} {x : Int} {k : Nat} (hP : ∀ y ∈ P, c y x < 0) (hQ : ∀ y ∈ Q, ¬ c y x < 0) (h1 : ∀ y ∈ (P ++ Q).take k, c y x < 0) (h2 : cP c (P ++ Q) x k = false) (hk : k ≤ (P ++ Q).length) : k = P.length := by
  rcases Nat.lt_trichotomy k P.length with h | h | h
  · rw [cP_in (by rw [List.length_append]; omega), List.getElem_append_left h] at h2
    exact absurd (hP _ (List.getElem_mem h)) (of_decide_eq_false h2)
  · exact h
  · have hq : 0 < Q.length := by rw [List.length_append] at hk; omega
    have hm : Q[0] ∈ (P ++ Q).take k := by
      rw [List.take_append, List.mem_append]
      right
      rw [List.mem_take_iff_getElem]
      exact ⟨0, by omega, rfl⟩
    exact absurd (h1 _ hm) (hQ _ (List.getElem_mem hq))
theorem s_uniq {x : Int} {a s : Nat} {R : List Int} (hR : ∀ y ∈ R, y ≠ x) {P : List Int} (h1 : ((P ++ (List.replicate a x ++ R)).drop P.length).take s = List.replicate s x) (h2 : eP (P ++ (List.replicate a x ++ R)) x (P.length + s) = false) : s = a := by
  rw [List.drop_left' rfl] at h1
  have hl : s ≤ (List.replicate a x ++ R).length := by
    have := congrArg List.length h1
    rw [List.length_take, List.length_replicate] at this; omega
  rcases Nat.lt_trichotomy s a with h | h | h
  · rw [eP_in (by rw [List.length_append, List.length_append, List.length_replicate]; omega), List.getElem_append_right (by omega)] at h2
    refine absurd ?_ (of_decide_eq_false h2)
    rw [List.getElem_append_left (by rw [List.length_replicate]; omega), List.getElem_replicate]
  · exact h
  · rw [List.length_append, List.length_replicate] at hl
    have hr : 0 < R.length := by omega
    have h3 : ((List.replicate a x ++ R).take s)[a]? = some x := by rw [h1, List.getElem?_replicate]; rw [if_pos h]
    rw [List.getElem?_take_of_lt h, List.getElem?_append_right (by rw [List.length_replicate]; omega), List.length_replicate, Nat.sub_self, List.getElem?_eq_getElem hr] at h3
    exact absurd (Option.some.inj h3) (hR _ (List.getElem_mem hr))
theorem add_exp {c : Int → Int → Int} {key : Int → Int} {ok : Int → Prop} (hc : KeyC c key ok) (hi : ∀ x y, ok x → ok y → key x = key y → x = y) {l : List (Int × Int)} (hs : SortK key l) (ho : ∀ p ∈ l, ok p.1) (hp : ∀ p ∈ l, 1 ≤ p.2) {t : Int} (ht : ok t) (n : Int) {k s : Nat} (hk : k ≤ (expI l).length)
    (h1 : ∀ y ∈ (expI l).take k, c y t < 0) (h2 : cP c (expI l) t k = false) (h3 : ((expI l).drop k).take s = List.replicate s t) (h4 : eP (expI l) t (k + s) = false) :
    nowWI c l t n = max 0 ((s : Int) + n) ∧ expI (addWI c l t n) = (expI l).take k ++ (List.replicate (max 0 ((s : Int) + n)).toNat t ++ (expI l).drop (k + s)) := by
  obtain ⟨A, B, rfl, hA, hB⟩ := add_split hc hs ho ht n
  have oA : ∀ p ∈ A, ok p.1 := fun p h => ho p (List.mem_append_left _ h)
  have oB : ∀ p ∈ B, ok p.1 := fun p h => ho p (List.mem_append_right _ h)
  have eA : ∀ y ∈ expI A, c y t < 0 := fun y hy => by
    obtain ⟨p, h5, rfl⟩ := expI_mem hy
    exact (hc.lt _ _ (oA p h5) ht).2 (hA p h5)
  have gt : ∀ C : List (Int × Int), (∀ p ∈ C, ok p.1) → (∀ p ∈ C, key t < key p.1) → (∀ y ∈ expI C, ¬ c y t < 0) ∧ ∀ y ∈ expI C, y ≠ t := fun C oC hC => ⟨fun y hy => by
    obtain ⟨p, h5, rfl⟩ := expI_mem hy
    have := hC p h5
    intro e
    have := (hc.lt _ _ (oC p h5) ht).1 e
    omega, fun y hy => by
    obtain ⟨p, h5, rfl⟩ := expI_mem hy
    have := hC p h5
    intro e; rw [e] at this; omega⟩
  rw [expI_append] at hk h1 h2 h3 h4 ⊢
  rcases hB with ⟨y, m, B', rfl, hy, hB', hn, ha⟩ | ⟨hB', hn, ha⟩
  · have hyt : y = t := hi y t (oB (y, m) (List.mem_cons_self ..)) ht hy
    subst hyt
    have hm : 1 ≤ m := hp (y, m) (List.mem_append_right _ (List.mem_cons_self ..))
    have oB' : ∀ p ∈ B', ok p.1 := fun p h => oB p (List.mem_cons_of_mem _ h)
    obtain ⟨g1, g2⟩ := gt B' oB' hB'
    rw [expI_cons] at hk h1 h2 h3 h4 ⊢
    dsimp only at hk h1 h2 h3 h4 ⊢
    have hcyy : ¬ c y y < 0 := fun e => by have := (hc.lt _ _ ht ht).1 e; omega
    have hk2 := k_uniq eA (fun z hz => by rcases List.mem_append.1 hz with h | h; (rw [(List.mem_replicate.1 h).2]; exact hcyy); exact g1 z h) h1 h2 hk
    subst hk2
    have hs2 := s_uniq g2 h3 h4
    subst hs2
    have e1 : ((m.toNat : Nat) : Int) = m := by omega
    rw [e1]
    refine ⟨by rw [hn]; omega, ?_⟩
    rw [ha, List.take_left' rfl, ← List.drop_drop, List.drop_left' rfl, List.drop_left' (List.length_replicate ..)]
    have e2 : max (m + n) 0 = max 0 (m + n) := by omega
    rw [e2]
    split
    · rename_i h0
      rw [h0, expI_append]; rfl
    · rw [expI_append, expI_cons]
  · obtain ⟨g1, g2⟩ := gt B oB hB'
    have hk2 := k_uniq eA g1 h1 h2 hk
    subst hk2
    have hs2 : s = 0 := by
      have h3' : ((expI A ++ (List.replicate 0 t ++ expI B)).drop (expI A).length).take s = List.replicate s t := h3
      exact s_uniq g2 h3' h4
    subst hs2
    refine ⟨by rw [hn]; simp; omega, ?_⟩
    rw [ha, List.take_left' rfl, Nat.add_zero, List.drop_left' rfl]
    have e2 : max n 0 = max 0 (((0 : Nat) : Int) + n) := by simp; omega
    rw [e2]
    split
    · rename_i h0
      rw [h0, expI_append]; rfl
    · rw [expI_append, expI_cons]
theorem add_none {c : Int → Int → Int} {key : Int → Int} {ok : Int → Prop} (hc : KeyC c key ok) {l : List (Int × Int)} (hs : SortK key l) (ho : ∀ p ∈ l, ok p.1) (hp : ∀ p ∈ l, 1 ≤ p.2) {t : Int} (ht : ok t) : addWI c l t 0 = l := by
  obtain ⟨A, B, rfl, hA, hB⟩ := add_split hc hs ho ht 0
  rcases hB with ⟨y, m, B', rfl, hy, hB', hn, ha⟩ | ⟨hB', hn, ha⟩
  · have hm : 1 ≤ m := hp (y, m) (List.mem_append_right _ (List.mem_cons_self ..))
    rw [ha, Int.add_zero, Int.max_eq_left (by omega), if_neg (by omega)]
  · rw [ha]; rfl
theorem now_again {c : Int → Int → Int} {key : Int → Int} {ok : Int → Prop} (hc : KeyC c key ok) {l : List (Int × Int)} (hs : SortK key l) (ho : ∀ p ∈ l, ok p.1) {t : Int} (ht : ok t) (n : Int) : nowWI c (addWI c l t n) t 0 = nowWI c l t n := by
  obtain ⟨h1, h2, h3, h4, h5, h6⟩ := add_all hc hs ho ht n
  obtain ⟨_, _, g3, _⟩ := add_all hc h1 h2 ht 0
  rw [g3, h4 (key t)]
  simp only [if_true]
  rw [h3]; omega
/-! kinds, one behind the other -/
def dd : Option Int → List Int → List Int
  | _, [] => []
  | p, x :: t => if p = some x then dd p t else x :: dd (some x) t
theorem dd_len : ∀ (l : List Int) (p : Option Int), (dd p l).length ≤ l.length
  | [], _ => Nat.le_refl _
  | x :: t, p => by
    rw [dd]
    split
    · have := dd_len t p; simp; omega
    · have := dd_len t (some x); simp; omega
theorem dd_rep (x : Int) (t : List Int) : ∀ n : Nat, dd (some x) (List.replicate n x ++ t) = dd (some x) t
  | 0 => rfl
  | n + 1 => by rw [List.replicate_succ, List.cons_append, dd, if_pos rfl]; exact dd_rep x t n
theorem dd_exp {key : Int → Int} : ∀ (l : List (Int × Int)) (p : Option Int), SortK key l → (∀ q ∈ l, 1 ≤ q.2) → (∀ q ∈ l, p ≠ some q.1) → dd p (expI l) = fstI l
  | [], _, _, _, _ => rfl
  | q :: l, p, hs, hp, hn => by
    have hq := hp q (List.mem_cons_self ..)
    obtain ⟨m, hm⟩ : ∃ m : Nat, q.2.toNat = m + 1 := ⟨q.2.toNat - 1, by omega⟩
    rw [expI_cons, hm, List.replicate_succ, List.cons_append, dd, if_neg (hn q (List.mem_cons_self ..)), dd_rep]
    obtain ⟨h1, h2⟩ := List.pairwise_cons.1 hs
    rw [dd_exp l (some q.1) h2 (fun r hr => hp r (List.mem_cons_of_mem _ hr)) (fun r hr e => by have := h1 r hr; injection e with e; rw [e] at this; omega)]
    rfl
theorem dd_snoc (x : Int) : ∀ (a : List Int) (p : Option Int), dd p (a ++ [x]) = dd p a ++ (if (a.getLast?.or p) = some x then [] else [x])
  | [], p => by
    by_cases h : p = some x <;> simp [dd, h]
  | y :: a, p => by
    have hl : ((y :: a).getLast?.or p) = (a.getLast?.or (some y)) := by
      cases a with
      | nil => rfl
      | cons z a => rw [List.getLast?_cons_cons]; cases h : (z :: a).getLast? with
        | none => simp at h
        | some _ => rfl
    rw [List.cons_append, dd, hl]
    by_cases h : p = some y
    · subst h
      rw [if_pos rfl, dd, if_pos rfl]; exact dd_snoc x a (some y)
    · rw [if_neg h, dd, if_neg h, dd_snoc x a (some y), List.cons_append]
theorem dd_prefix : ∀ (a b : List Int) (p : Option Int), ∃ r, dd p (a ++ b) = dd p a ++ r
  | [], b, p => ⟨dd p b, rfl⟩
  | x :: a, b, p => by
    rw [List.cons_append, dd, dd]
    split
    · exact dd_prefix a b p
    · obtain ⟨r, hr⟩ := dd_prefix a b (some x)
      exact ⟨r, by rw [hr]; rfl⟩
/-- The law's step through its list: is it another kind? -/
theorem dd_step {L : List Int} {i : Nat} (hi : i < L.length) : dd none (L.take (i + 1)) = dd none (L.take i) ++ (if 0 < i ∧ L[i - 1]'(by omega) = L[i] then [] else [L[i]]) := by
  rw [List.take_succ_eq_append_getElem hi, dd_snoc]
  congr 1
  by_cases h0 : i = 0
  · subst h0; simp
  · have hlast : ((L.take i).getLast?.or none) = some (L[i - 1]'(by omega)) := by
      rw [List.getLast?_eq_getElem?, List.length_take, Nat.min_eq_left (by omega), List.getElem?_take_of_lt (by omega), List.getElem?_eq_getElem (by omega)]; rfl
    rw [hlast]
    by_cases h : L[i - 1]'(by omega) = L[i]
    · rw [if_pos (by rw [h]), if_pos ⟨by omega, h⟩]
    · rw [if_neg (fun e => h (Option.some.inj e)), if_neg (fun e => h e.2)]
theorem dd_at {L : List Int} {i : Nat} (hi : i < L.length) (h : ¬ (0 < i ∧ L[i - 1]'(by omega) = L[i])) : ∃ h2 : (dd none (L.take i)).length < (dd none L).length, (dd none L)[(dd none (L.take i)).length] = L[i] := by
  obtain ⟨r, hr⟩ := dd_prefix (L.take (i + 1)) (L.drop (i + 1)) none
  rw [List.take_append_drop, dd_step hi, if_neg h] at hr
  have hl : (dd none (L.take i)).length < (dd none L).length := by rw [hr]; simp
  refine ⟨hl, ?_⟩
  have h3 : (dd none L)[(dd none (L.take i)).length]? = some L[i] := by rw [hr, List.append_assoc, List.getElem?_append_right (Nat.le_refl _), Nat.sub_self]; rfl
  rw [List.getElem?_eq_getElem hl] at h3
  exact Option.some.inj h3
end Go.Proofs.Ytidpfkehmokdfaa
