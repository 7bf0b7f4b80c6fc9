/- What Add does to a bag of whole numbers, told by keys; no program in sight. -/
import Derived.Test.YtidpfkehmokdfaaCmp6
open Go Go.Proofs Go.RowKit
namespace Go.Proofs.Ytidpfkehmokdfaa
/-- c compares as the keys stand. -/
structure KeyC (c : Int → Int → Int) (key : Int → Int) (ok : Int → Prop) : Prop where
  lt : ∀ x y, ok x → ok y → (c x y < 0 ↔ key x < key y)
  eq : ∀ x y, ok x → ok y → (c x y = 0 ↔ key x = key y)
def SortK (key : Int → Int) (l : List (Int × Int)) : Prop := l.Pairwise (fun p q => key p.1 < key q.1)
theorem sort_mono {c : Int → Int → Int} {key : Int → Int} {ok : Int → Prop} (hc : KeyC c key ok) {l : List (Int × Int)} (hs : SortK key l) (ho : ∀ p ∈ l, ok p.1) {t : Int} (ht : ok t) :
    ∀ i j (hi : i < l.length) (hj : j < l.length), i ≤ j → c l[j].1 t < 0 → c l[i].1 t < 0 := by
  intro i j hi hj hij h
  have h1 := (hc.lt _ _ (ho _ (List.getElem_mem hj)) ht).1 h
  refine (hc.lt _ _ (ho _ (List.getElem_mem hi)) ht).2 ?_
  rcases Nat.lt_or_eq_of_le hij with hlt | rfl
  · have := List.pairwise_iff_getElem.1 hs i j hi hj hlt
    omega
  · exact h1
theorem takeWhile_split (p : Int × Int → Bool) : ∀ l : List (Int × Int), l = l.takeWhile p ++ l.dropWhile p ∧ (∀ x ∈ l.takeWhile p, p x = true) ∧ ∀ x r, l.dropWhile p = x :: r → p x = false := by
  intro l
  induction l with
  | nil => simp
  | cons a l ih =>
    by_cases h : p a = true
    · obtain ⟨h1, h2, h3⟩ := ih
      simp only [List.takeWhile_cons, List.dropWhile_cons, h, if_true]
      refine ⟨?_, ?_, h3⟩
      · conv => lhs; rw [h1]
        rfl
      · intro x hx
        rcases List.mem_cons.1 hx with rfl | hx
        · exact h
        · exact h2 x hx
    · simp only [List.takeWhile_cons, List.dropWhile_cons, h]
      refine ⟨rfl, by simp, fun x r e => ?_⟩
      injection e with e1 e2
      subst e1
      simpa using h
/-- Add, seen as a list in two parts. -/
theorem add_split {c : Int → Int → Int} {key : Int → Int} {ok : Int → Prop} (hc : KeyC c key ok) {l : List (Int × Int)} (hs : SortK key l) (ho : ∀ p ∈ l, ok p.1) {t : Int} (ht : ok t) (n : Int) :
    ∃ A B, l = A ++ B ∧ (∀ p ∈ A, key p.1 < key t) ∧
      ((∃ y m B', B = (y, m) :: B' ∧ key y = key t ∧ (∀ p ∈ B', key t < key p.1) ∧ nowWI c l t n = max (m + n) 0 ∧ addWI c l t n = A ++ (if max (m + n) 0 = 0 then B' else (y, max (m + n) 0) :: B')) ∨
       ((∀ p ∈ B, key t < key p.1) ∧ nowWI c l t n = max n 0 ∧ addWI c l t n = A ++ (if max n 0 = 0 then B else (t, max n 0) :: B))) := by
  obtain ⟨h1, h2, h3⟩ := takeWhile_split (fun p => decide (c p.1 t < 0)) l
  have hA : ∀ p ∈ l.takeWhile (fun p => decide (c p.1 t < 0)), key p.1 < key t := fun p hp => by
    have hpl : p ∈ l := by rw [h1]; exact List.mem_append_left _ hp
    exact (hc.lt _ _ (ho p hpl) ht).1 (by simpa using h2 p hp)
  obtain ⟨A, hAe⟩ : ∃ A, l.takeWhile (fun p => decide (c p.1 t < 0)) = A := ⟨_, rfl⟩
  obtain ⟨B, hBe⟩ : ∃ B, l.dropWhile (fun p => decide (c p.1 t < 0)) = B := ⟨_, rfl⟩
  have hnow : nowWI c l t n = nowI l (fun y => c y t) A.length n := by unfold nowWI; rw [hAe]
  have hadd : addWI c l t n = addI l (fun y => c y t) A.length t n := by unfold addWI; rw [hAe]
  rw [hAe] at hA h1
  rw [hBe] at h1 h3
  have hta : l.take A.length = A := by rw [h1]; exact List.take_left' rfl
  refine ⟨A, B, h1, hA, ?_⟩
  cases B with
  | nil =>
    right
    have hf : foundI l (fun y => c y t) A.length = false := by
      unfold foundI; rw [h1, List.getElem?_append_right (Nat.le_refl _), Nat.sub_self]; rfl
    have hh : hadI l (fun y => c y t) A.length = 0 := by unfold hadI; rw [hf]; rfl
    have hn : nowI l (fun y => c y t) A.length n = max n 0 := by unfold nowI; rw [hh, Int.zero_add]
    have hd : l.drop A.length = [] := by rw [h1]; simp
    refine ⟨by simp, by rw [hnow, hn], ?_⟩
    rw [hadd]
    unfold addI
    rw [hf, hn, hta, hd]
    have e : l = A ++ [] := h1
    by_cases h0 : max n 0 = 0
    · simp only [h0, if_true]; rw [if_neg (by simp)]; exact e
    · simp only [h0, if_false]; rw [if_neg (by simp)]
  | cons b B' =>
    obtain ⟨y, m⟩ := b
    have hyl : (y, m) ∈ l := by rw [h1]; simp
    have hnl := h3 (y, m) B' rfl
    have hyk : ¬ key y < key t := fun e => by
      have := (hc.lt y t (ho _ hyl) ht).2 e
      simp at hnl; omega
    have hB' : ∀ p ∈ B', key y < key p.1 := fun p hp => by
      have hs2 := hs
      unfold SortK at hs2
      rw [h1, List.pairwise_append] at hs2
      exact (List.pairwise_cons.1 hs2.2.1).1 p hp
    have hget : l[A.length]? = some (y, m) := by rw [h1, List.getElem?_append_right (Nat.le_refl _), Nat.sub_self]; rfl
    have hf : foundI l (fun y => c y t) A.length = (c y t == 0) := by unfold foundI; rw [hget]
    have hgd : l.getD A.length (0, 0) = (y, m) := by rw [List.getD_eq_getElem?_getD, hget]; rfl
    have hd : l.drop A.length = (y, m) :: B' := by rw [h1]; exact List.drop_left' rfl
    have hd1 : l.drop (A.length + 1) = B' := by
      rw [h1, show A ++ (y, m) :: B' = (A ++ [(y, m)]) ++ B' by simp]
      exact List.drop_left' (by simp)
    have hset : ∀ q, l.set A.length q = A ++ q :: B' := fun q => by
      rw [h1, List.set_append_right _ _ (Nat.le_refl _), Nat.sub_self]; rfl
    by_cases heq : key y = key t
    · left
      have hc0 : c y t = 0 := (hc.eq y t (ho _ hyl) ht).2 heq
      have hf2 : foundI l (fun y => c y t) A.length = true := by rw [hf, hc0]; rfl
      have hh : hadI l (fun y => c y t) A.length = m := by unfold hadI; rw [if_pos hf2, hgd]
      have hn : nowI l (fun y => c y t) A.length n = max (m + n) 0 := by unfold nowI; rw [hh]
      refine ⟨y, m, B', rfl, heq, fun p hp => by have := hB' p hp; omega, by rw [hnow, hn], ?_⟩
      rw [hadd]
      unfold addI
      rw [if_pos hf2, hn, hta, hd1, hgd, hset]
      by_cases h0 : max (m + n) 0 = 0
      · rw [if_pos h0, if_pos h0]
      · rw [if_neg h0, if_neg h0]
    · right
      have hc0 : ¬ c y t = 0 := fun e => heq ((hc.eq y t (ho _ hyl) ht).1 e)
      have hf2 : foundI l (fun y => c y t) A.length = false := by rw [hf]; simp [hc0]
      have hh : hadI l (fun y => c y t) A.length = 0 := by unfold hadI; rw [if_neg (by rw [hf2]; simp)]
      have hn : nowI l (fun y => c y t) A.length n = max n 0 := by unfold nowI; rw [hh, Int.zero_add]
      refine ⟨fun p hp => ?_, by rw [hnow, hn], ?_⟩
      · rcases List.mem_cons.1 hp with rfl | hp
        · show key t < key y; omega
        · have := hB' p hp; omega
      · rw [hadd]
        unfold addI
        rw [if_neg (by rw [hf2]; simp), hn, hta, hd]
        by_cases h0 : max n 0 = 0
        · rw [if_pos h0, if_pos h0]; exact h1
        · rw [if_neg h0, if_neg h0]
/-- How many are there of key k. -/
def cntK (key : Int → Int) : List (Int × Int) → Int → Int
  | [], _ => 0
  | p :: l, k => (if key p.1 = k then p.2 else 0) + cntK key l k
theorem cntK_append (key : Int → Int) (l m : List (Int × Int)) (k : Int) : cntK key (l ++ m) k = cntK key l k + cntK key m k := by
  induction l with
  | nil => simp [cntK]
  | cons p l ih => simp only [List.cons_append, cntK, ih]; omega
theorem cntK_none (key : Int → Int) : ∀ (l : List (Int × Int)) (k : Int), (∀ p ∈ l, key p.1 ≠ k) → cntK key l k = 0
  | [], _, _ => rfl
  | p :: l, k, h => by
    simp only [cntK]
    rw [if_neg (h p (by simp)), cntK_none key l k (fun q hq => h q (List.mem_cons_of_mem _ hq))]; rfl
/-- All that is said of a bag behind an Add. -/
theorem add_all {c : Int → Int → Int} {key : Int → Int} {ok : Int → Prop} (hc : KeyC c key ok) {l : List (Int × Int)} (hs : SortK key l) (ho : ∀ p ∈ l, ok p.1) {t : Int} (ht : ok t) (n : Int) :
    SortK key (addWI c l t n) ∧ (∀ p ∈ addWI c l t n, ok p.1) ∧ nowWI c l t n = max (cntK key l (key t) + n) 0 ∧
      (∀ k, cntK key (addWI c l t n) k = if k = key t then nowWI c l t n else cntK key l k) ∧ sumI (addWI c l t n) = sumI l - cntK key l (key t) + nowWI c l t n ∧
      (∀ p ∈ addWI c l t n, p ∈ l ∨ p.2 = nowWI c l t n ∧ 1 ≤ p.2) := by
  obtain ⟨A, B, hl, hA, h⟩ := add_split hc hs ho ht n
  have hs2 := hs
  unfold SortK at hs2
  rw [hl, List.pairwise_append] at hs2
  obtain ⟨sA, sB, sAB⟩ := hs2
  have cA : cntK key A (key t) = 0 := cntK_none key A _ fun p hp e => by have := hA p hp; omega
  have hmA : ∀ p ∈ A, p ∈ l := fun p hp => by rw [hl]; exact List.mem_append_left _ hp
  rcases h with ⟨y, m, B', rfl, hy, hB', hn, ha⟩ | ⟨hB, hn, ha⟩
  · have cB : cntK key B' (key t) = 0 := cntK_none key B' _ fun p hp e => by have := hB' p hp; omega
    have cl : cntK key l (key t) = m := by rw [hl, cntK_append, cA]; simp only [cntK, hy, if_true, cB]; omega
    have hmB : ∀ p ∈ B', p ∈ l := fun p hp => by rw [hl]; exact List.mem_append_right _ (List.mem_cons_of_mem _ hp)
    have hsl : sumI l = sumI A + m + sumI B' := by rw [hl]; simp [sumI]; omega
    have hyl : ok y := ho (y, m) (by rw [hl]; simp)
    rw [hn, ha, cl, hsl]
    have sB2 := (List.pairwise_cons.1 sB).2
    by_cases h0 : max (m + n) 0 = 0
    · rw [if_pos h0, h0]
      refine ⟨List.pairwise_append.2 ⟨sA, sB2, fun a ha b hb => sAB a ha b (List.mem_cons_of_mem _ hb)⟩, fun p hp => ?_, rfl, fun k => ?_, by simp [sumI]; omega, fun p hp => ?_⟩
      · rcases List.mem_append.1 hp with e | e
        · exact ho p (hmA p e)
        · exact ho p (hmB p e)
      · rw [cntK_append, hl, cntK_append]
        simp only [cntK, hy]
        by_cases hk : k = key t
        · subst hk; rw [cA, cB, if_pos rfl]; rfl
        · rw [if_neg hk, if_neg (fun e => hk e.symm)]; omega
      · rcases List.mem_append.1 hp with e | e
        · exact .inl (hmA p e)
        · exact .inl (hmB p e)
    · rw [if_neg h0]
      refine ⟨List.pairwise_append.2 ⟨sA, List.pairwise_cons.2 ⟨fun b hb => (List.pairwise_cons.1 sB).1 b hb, sB2⟩, fun a ha b hb => ?_⟩, fun p hp => ?_, rfl, fun k => ?_, by simp [sumI]; omega, fun p hp => ?_⟩
      · rcases List.mem_cons.1 hb with rfl | hb
        · exact sAB a ha (y, m) (by simp)
        · exact sAB a ha b (List.mem_cons_of_mem _ hb)
      · rcases List.mem_append.1 hp with e | e
        · exact ho p (hmA p e)
        · rcases List.mem_cons.1 e with rfl | e
          · exact hyl
          · exact ho p (hmB p e)
      · rw [cntK_append, hl, cntK_append]
        simp only [cntK, hy]
        by_cases hk : k = key t
        · subst hk; rw [cA, cB, if_pos rfl, if_pos rfl]; omega
        · rw [if_neg hk, if_neg (fun e => hk e.symm), if_neg (fun e => hk e.symm)]
      · rcases List.mem_append.1 hp with e | e
        · exact .inl (hmA p e)
        · rcases List.mem_cons.1 e with rfl | e
          · exact .inr ⟨rfl, by show 1 ≤ max (m + n) 0; omega⟩
          · exact .inl (hmB p e)
  · have cB : cntK key B (key t) = 0 := cntK_none key B _ fun p hp e => by have := hB p hp; omega
    have cl : cntK key l (key t) = 0 := by rw [hl, cntK_append, cA, cB]; rfl
    have hmB : ∀ p ∈ B, p ∈ l := fun p hp => by rw [hl]; exact List.mem_append_right _ hp
    have hsl : sumI l = sumI A + sumI B := by rw [hl]; simp [sumI]
    rw [hn, ha, cl, hsl, Int.zero_add]
    by_cases h0 : max n 0 = 0
    · rw [if_pos h0, h0, ← hl]
      refine ⟨hs, ho, rfl, fun k => ?_, by rw [hl]; simp [sumI], fun p hp => .inl hp⟩
      by_cases hk : k = key t
      · subst hk; rw [if_pos rfl, cl]
      · rw [if_neg hk]
    · rw [if_neg h0]
      refine ⟨List.pairwise_append.2 ⟨sA, List.pairwise_cons.2 ⟨fun b hb => hB b hb, sB⟩, fun a ha b hb => ?_⟩, fun p hp => ?_, rfl, fun k => ?_, by simp [sumI]; omega, fun p hp => ?_⟩
      · rcases List.mem_cons.1 hb with rfl | hb
        · exact hA a ha
        · exact sAB a ha b hb
      · rcases List.mem_append.1 hp with e | e
        · exact ho p (hmA p e)
        · rcases List.mem_cons.1 e with rfl | e
          · exact ht
          · exact ho p (hmB p e)
      · rw [cntK_append, hl, cntK_append]
        simp only [cntK]
        by_cases hk : k = key t
        · subst hk; rw [cA, cB, if_pos rfl, if_pos rfl]; omega
        · rw [if_neg hk, if_neg (fun e => hk e.symm)]; omega
      · rcases List.mem_append.1 hp with e | e
        · exact .inl (hmA p e)
        · rcases List.mem_cons.1 e with rfl | e
          · exact .inr ⟨rfl, by show 1 ≤ max n 0; omega⟩
          · exact .inl (hmB p e)
/-- Two bags that have as many of each are alike. -/
theorem bag_uniq {key : Int → Int} {ok : Int → Prop} (hk : ∀ x y, ok x → ok y → key x = key y → x = y) : ∀ (l l' : List (Int × Int)), SortK key l → SortK key l' → (∀ p ∈ l, ok p.1 ∧ 1 ≤ p.2) → (∀ p ∈ l', ok p.1 ∧ 1 ≤ p.2) → (∀ k, cntK key l k = cntK key l' k) → l = l'
  | [], [], _, _, _, _, _ => rfl
  | [], q :: l', _, h2, _, h4, h5 => by
    have := h5 (key q.1)
    simp only [cntK, if_true] at this
    have hz := cntK_none key l' (key q.1) fun p hp e => by have := (List.pairwise_cons.1 h2).1 p hp; omega
    have := (h4 q (by simp)).2
    omega
  | p :: l, [], h1, _, h3, _, h5 => by
    have := h5 (key p.1)
    simp only [cntK, if_true] at this
    have hz := cntK_none key l (key p.1) fun q hq e => by have := (List.pairwise_cons.1 h1).1 q hq; omega
    have := (h3 p (by simp)).2
    omega
  | p :: l, q :: l', h1, h2, h3, h4, h5 => by
    obtain ⟨s1, s1'⟩ := List.pairwise_cons.1 h1
    obtain ⟨s2, s2'⟩ := List.pairwise_cons.1 h2
    have z1 : ∀ k, k ≤ key p.1 → cntK key l k = 0 := fun k hk => cntK_none key l k fun r hr e => by have := s1 r hr; omega
    have z2 : ∀ k, k ≤ key q.1 → cntK key l' k = 0 := fun k hk => cntK_none key l' k fun r hr e => by have := s2 r hr; omega
    have p1 := (h3 p (by simp)).2
    have q1 := (h4 q (by simp)).2
    have e1 := h5 (key p.1)
    have e2 := h5 (key q.1)
    simp only [cntK, if_true] at e1 e2
    have hkk : key p.1 = key q.1 := by
      rcases Int.lt_trichotomy (key p.1) (key q.1) with hlt | heq | hgt
      · rw [z1 _ (Int.le_refl _), z2 _ (by omega), if_neg (by omega)] at e1; omega
      · exact heq
      · rw [z2 _ (Int.le_refl _), z1 _ (by omega), if_neg (by omega)] at e2; omega
    have hpq1 : p.1 = q.1 := hk _ _ (h3 p (by simp)).1 (h4 q (by simp)).1 hkk
    have hpq2 : p.2 = q.2 := by
      rw [z1 _ (Int.le_refl _), z2 _ (by omega), if_pos hkk.symm] at e1; omega
    have hpq : p = q := Prod.ext hpq1 hpq2
    subst hpq
    congr 1
    refine bag_uniq hk l l' s1' s2' (fun r hr => h3 r (List.mem_cons_of_mem _ hr)) (fun r hr => h4 r (List.mem_cons_of_mem _ hr)) fun k => ?_
    have := h5 k
    simp only [cntK] at this
    omega
end Go.Proofs.Ytidpfkehmokdfaa
