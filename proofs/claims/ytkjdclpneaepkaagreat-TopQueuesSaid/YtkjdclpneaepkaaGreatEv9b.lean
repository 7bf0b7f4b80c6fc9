/- TopQueues: behind the rounds; plain facts of queues' counts. -/
import Derived.Test.YtkjdclpneaepkaaGreatEv9a
set_option linter.unusedVariables false
open Go Go.Ev Go.Proofs Go.RowKit
namespace Go.Proofs.YtkjdclpneaepkaaGreat.Qu
def Inv2 (w0 : World) (v4 : Value) (gw : Nat) (l ts : List Nat) (L : Nat → List Nat) (m : Nat) (w : World) : Prop :=
  ∃ (G : Nat → Prop) (rl : Nat → Nat) (sp : Nat → Value), St2 (fun g => g < w0.heap.size ∨ G g) v4 l ts m w ∧ WB w0.heap.size w gw rl sp L ∧ G gw ∧ (∀ k, k < 8 → ∀ g, (sp k).ownBlock = some g → G g) ∧ Keep NoF w0 w
theorem Inv.two {w0 : World} {v4 : Value} {gw : Nat} {σ : List Bool} {ts : List Nat} {L : Nat → List Nat} {w : World} (E : AllOk) (h : Inv w0 v4 gw σ ts L w) (hR : Rch σ) : Inv2 w0 v4 gw (ins σ) ts L 8 w := by
  obtain ⟨G, rl, sp, h1, h2, h3, h4, h5, h6⟩ := h
  exact ⟨G, rl, sp, h1.two E hR, h2, h3, h4, h6⟩
theorem Inv2.kp {w0 : World} {v4 : Value} {gw : Nat} {l ts : List Nat} {L : Nat → List Nat} {m : Nat} {w : World} (h : Inv2 w0 v4 gw l ts L m w) : Keep NoF w0 w := by
  obtain ⟨G, rl, sp, h1, h2, h3, h4, h6⟩ := h
  exact h6
theorem Inv2.keep {w0 : World} {v4 : Value} {gw : Nat} {l ts : List Nat} {L : Nat → List Nat} {m : Nat} {w w' : World} (h : Inv2 w0 v4 gw l ts L m w) (k : Keep NoF w w') : Inv2 w0 v4 gw l ts L m w' := by
  obtain ⟨G, rl, sp, h1, h2, h3, h4, h6⟩ := h
  exact ⟨G, rl, sp, h1.keep k, h2.keepF k (fun f => f) (fun _ _ _ _ f => f), h3, h4, h6.trans' k⟩
theorem Inv2.at {w0 : World} {v4 : Value} {gw : Nat} {l ts : List Nat} {L : Nat → List Nat} {m : Nat} {w : World} (h : Inv2 w0 v4 gw l ts L m w) (k : Nat) (hk : k < 8) : ∃ v, w.cell? ⟨gw, k, none⟩ = some v ∧ SlT w v ((L k).map tx) := by
  obtain ⟨G, rl, sp, h1, ⟨⟨c, q1, q2, q3⟩, r, o, gl⟩, h3, h4, h6⟩ := h
  exact ⟨sp k, by rw [cell_of_heap q1, q3 k hk], (r k hk).slt⟩
theorem bods_q {w0 w : World} {v4 : Value} {gw : Nat} {l ts : List Nat} {L : Nat → List Nat} {m : Nat} (h : Inv2 w0 v4 gw l ts L (m + 1) w) (hl : l.length ≤ 1000) (t : Nat) {v : Value} {k : Nat} (hc : w.cell? ⟨gw, k, none⟩ = some v) :
    Calls Tryz.prog 23 #[v4, .int .i64 1, .string (qn t)] w fun e w' => ∃ u, e = .returned u ∧ SlT w' u ((of1 l ts t).map tx) ∧ Inv2 w0 v4 gw l ts L m w' ∧ w'.cell? ⟨gw, k, none⟩ = some v := by
  obtain ⟨G, rl, sp, h1, h2, h3, h4, h6⟩ := h
  refine (bodies_q h1 hl t).mono fun e w' ⟨u, e1, e2, e3, e4⟩ => ⟨u, e1, e2, ⟨G, rl, sp, e3, h2.keepF e4 (fun f => f (.inr h3)) (fun j hj g hg f => f (.inr (h4 j hj g hg))), h3, h4, h6.trans e4 (fun _ _ f => f) (fun i hi f => f (.inl hi))⟩, e4.cell' hc (fun f => f (.inr h3))⟩
/-! ### counts -/
def cnt (ts : List Nat) (t : Nat) : Nat := (ts.filter fun x => x % 8 == t % 8).length
theorem of1_len : ∀ (l ts : List Nat) (t : Nat), l.length = ts.length → (of1 l ts t).length = cnt ts t
  | [], [], _, _ => rfl
  | i :: l, x :: ts, t, h => by
    have ih := of1_len l ts t (by simpa using h)
    unfold of1 cnt at ih ⊢
    rw [List.length_map] at ih ⊢
    by_cases e : (x % 8 == t % 8) = true <;> simp [List.zip_cons_cons, e, ih]
  | [], _ :: _, _, h => by simp at h
  | _ :: _, [], _, h => by simp at h
theorem of1_add (l ts : List Nat) (t i k : Nat) (h : l.length = ts.length) : of1 (l ++ [i]) (ts ++ [k]) t = of1 l ts t ++ (if (k % 8 == t % 8) = true then [i] else []) := by
  unfold of1
  rw [List.zip_append h, List.filter_append, List.map_append]
  congr 1
  by_cases e : (k % 8 == t % 8) = true <;> simp [e]
theorem kinds_le (ts : List Nat) : kindsB ts ≤ ts.length := by
  rw [← kinds_len ts]
  have h : ((ts.map qnL).mergeSort fun x y => decide (x ≤ y)).length = ts.length := by rw [List.length_mergeSort, List.length_map]
  rw [h]
  unfold Go.Lib.compactUpTo
  rw [List.length_map]
  exact Nat.le_trans (List.length_filter_le _ _) (by simp)
theorem filter_or {f : Nat → Bool} {m : Nat} : ∀ L : List Nat, L.Nodup → (L.filter fun j => f j || m == j).length = (L.filter f).length + (if m ∈ L ∧ f m = false then 1 else 0)
  | [], _ => rfl
  | a :: L, h => by
    obtain ⟨h1, h2⟩ := List.nodup_cons.1 h
    have ih := filter_or (f := f) (m := m) L h2
    by_cases e : m = a
    · subst e
      have hn : ¬ (m ∈ L ∧ f m = false) := fun q => h1 q.1
      rw [if_neg hn] at ih
      cases q : f m <;> simp [q, ih]
    · have e' : (m == a) = false := by simpa using e
      have hm : (m ∈ a :: L) ↔ m ∈ L := by simp [e]
      simp only [hm]
      cases q : f a <;> simp [q, e', ih] <;> omega
theorem kinds_add (ts : List Nat) (k : Nat) : kindsB (ts ++ [k]) = kindsB ts + (if 0 < cnt ts k then 0 else 1) := by
  have e : kindsB (ts ++ [k]) = ((List.range 8).filter fun j => (ts.any fun x => x % 8 == j) || k % 8 == j).length := by
    unfold kindsB
    congr 1
    refine List.filter_congr fun j _ => ?_
    rw [List.any_append]; simp
  rw [e, filter_or (f := fun j => ts.any fun x => x % 8 == j) _ List.nodup_range]
  show kindsB ts + _ = _
  congr 1
  have hm : k % 8 ∈ List.range 8 := List.mem_range.2 (Nat.mod_lt _ (by decide))
  have hc : (ts.any fun x => x % 8 == k % 8) = decide (0 < cnt ts k) := by
    unfold cnt
    rw [Bool.eq_iff_iff, List.any_eq_true, decide_eq_true_iff]
    constructor
    · rintro ⟨x, h1, h2⟩
      exact List.length_pos_of_mem (List.mem_filter.2 ⟨h1, h2⟩)
    · intro h
      obtain ⟨x, hx⟩ := List.exists_mem_of_length_pos h
      exact ⟨x, (List.mem_filter.1 hx).1, (List.mem_filter.1 hx).2⟩
  rw [hc]
  by_cases q : 0 < cnt ts k <;> simp [q, Nat.mod_lt]
theorem room_cnt (ts : List Nat) (k : Nat) (hl : ts.length ≤ 10) : roomB ts k = (if 0 < cnt ts k then true else decide (kindsB ts < 6)) := by
  have hc : cnt ts k ≤ 10 := Nat.le_trans (List.length_filter_le _ _) hl
  show (bif decide (0 < cnt ts k) then decide (cnt ts k < 12) else decide (kindsB ts < 6)) = _
  by_cases q : 0 < cnt ts k
  · rw [if_pos q, decide_eq_true q]; simp; omega
  · rw [if_neg q, decide_eq_false q]; rfl
theorem ins_cons (r : Bool) (σ : List Bool) : ins (r :: σ) = (if r then ins σ ++ [σ.length] else ins σ) := by
  show (Bool.rec (motive := fun _ => List Nat) (ins σ) (ins σ ++ [lenL σ]) r) = _
  rw [lenL_eq]
  cases r <;> rfl
/-- What is known at the head of the law's loop. -/
structure At (n : Nat) (σ : List Bool) (ts : List Nat) (L : Nat → List Nat) : Prop where
  len : σ.length = n
  rch : Rch σ
  il : (ins σ).length = ts.length
  tl : ts.length ≤ n
  row : ∀ j, j < 8 → L j = of1 (ins σ) ts j
theorem At.zero : At 0 [] [] (fun _ => []) := ⟨rfl, trivial, rfl, Nat.le_refl _, fun _ _ => rfl⟩
theorem At.no {n : Nat} {σ : List Bool} {ts : List Nat} {L : Nat → List Nat} (h : At n σ ts L) {k : Nat} (hn : n < 10) (hr : roomB ts k = false) : Rch (false :: σ) ∧ At (n + 1) (false :: σ) ts L := by
  have hR : Rch (false :: σ) := ⟨h.rch, by rw [h.len]; exact hn, fun _ => by
    have h1 := room_cnt ts k (by have := h.tl; omega)
    rw [hr] at h1
    by_cases q : 0 < cnt ts k
    · rw [if_pos q] at h1; cases h1
    · rw [if_neg q] at h1
      have h2 : ¬ kindsB ts < 6 := of_decide_eq_false h1.symm
      have := kinds_le ts
      have := h.tl
      have := h.len
      omega⟩
  refine ⟨hR, by rw [List.length_cons, h.len], hR, ?_, by have := h.tl; omega, fun j hj => ?_⟩
  · rw [ins_cons]; exact h.il
  · rw [ins_cons]; exact h.row j hj
theorem At.yes {n : Nat} {σ : List Bool} {ts : List Nat} {L : Nat → List Nat} (h : At n σ ts L) {k : Nat} (hn : n < 10) (hk : k < 8) : Rch (true :: σ) ∧ At (n + 1) (true :: σ) (ts ++ [k]) (upL L k n) := by
  have hR : Rch (true :: σ) := ⟨h.rch, by rw [h.len]; exact hn, fun q => by cases q⟩
  refine ⟨hR, by rw [List.length_cons, h.len], hR, ?_, by rw [List.length_append]; have := h.tl; simp; omega, fun j hj => ?_⟩
  · rw [ins_cons, if_pos rfl, List.length_append, List.length_append, h.il]; rfl
  · rw [ins_cons, if_pos rfl, of1_add _ _ _ _ _ h.il, h.len]
    unfold upL
    by_cases e : j = k
    · subst e; rw [if_pos rfl, if_pos (by simp), h.row j hj]
    · rw [if_neg e, if_neg (by simp; omega), List.append_nil, h.row j hj]
theorem At.cnt {n : Nat} {σ : List Bool} {ts : List Nat} {L : Nat → List Nat} (h : At n σ ts L) {k : Nat} (hk : k < 8) : (L k).length = Qu.cnt ts k := by
  rw [h.row k hk, of1_len _ _ _ h.il]
end Go.Proofs.YtkjdclpneaepkaaGreat.Qu
