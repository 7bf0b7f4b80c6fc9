/- TopQueues: plain facts of queues' names: sorted, without those that come twice; how many. -/
import Derived.Test.YtkjdclpneaepkaaGreatEv90
import Derived.Test.YtkjdclpneaepkaaGreatShelfQ
set_option linter.unusedVariables false
open Go Go.Ev Go.Proofs Go.RowKit Go.Sort Go.Lib
namespace Go.Proofs.YtkjdclpneaepkaaGreat
theorem compact_spec {α : Type} [Inhabited α] [DecidableEq α] (le : α → α → Prop) (anti : ∀ a b, le a b → le b a → a = b) (zs : List α) (hs : zs.Pairwise le) : ∀ m, m ≤ zs.length → (compactUpTo zs.toArray m).Nodup ∧ ∀ x, x ∈ compactUpTo zs.toArray m ↔ x ∈ zs.take m := by
  intro m
  induction m with
  | zero => intro _; exact ⟨List.nodup_nil, fun x => by simp [compactUpTo]⟩
  | succ m ih =>
    intro hm
    obtain ⟨h1, h2⟩ := ih (by omega)
    have hg : ∀ j, j < zs.length → zs.toArray[j]! = zs[j]! := fun j hj => by
      rw [getElem!_pos zs.toArray j (by simpa using hj), getElem!_pos zs j hj]; simp
    have ht : zs.take (m + 1) = zs.take m ++ [zs[m]!] := by rw [List.take_succ_eq_append_getElem (by omega), getElem!_pos zs m (by omega)]
    rw [compactUpTo_succ, ht]
    by_cases k : keeps zs.toArray m = true
    · rw [if_pos k, hg m (by omega)]
      have hn : zs[m]! ∉ zs.take m := fun q => by
        obtain ⟨j, hj, e⟩ := List.getElem_of_mem q
        rw [List.length_take] at hj
        rw [List.getElem_take] at e
        have hjm : j < m := by omega
        have hk : m = 0 ∨ zs.toArray[m]! ≠ zs.toArray[m - 1]! := by simpa [keeps] using k
        rcases hk with hk | hk
        · omega
        · rw [hg m (by omega), hg (m - 1) (by omega)] at hk
          rw [getElem!_pos zs m (by omega), getElem!_pos zs (m - 1) (by omega)] at hk
          rw [getElem!_pos zs m (by omega)] at e
          by_cases q : j = m - 1
          · subst q; exact hk e.symm
          · have a1 := List.pairwise_iff_getElem.1 hs j (m - 1) (by omega) (by omega) (by omega)
            have a2 := List.pairwise_iff_getElem.1 hs (m - 1) m (by omega) (by omega) (by omega)
            rw [e] at a1
            exact hk (anti _ _ a1 a2)
      refine ⟨?_, fun x => by rw [List.mem_append, List.mem_append, h2]⟩
      rw [List.nodup_append]
      refine ⟨h1, by simp, fun a ha b hb => ?_⟩
      rw [List.mem_singleton] at hb
      subst hb
      intro e
      subst e
      exact hn ((h2 _).1 ha)
    · rw [if_neg k, List.append_nil]
      have hk : ¬ (m = 0 ∨ zs.toArray[m]! ≠ zs.toArray[m - 1]!) := by simpa [keeps] using k
      have hm0 : m ≠ 0 := fun q => hk (.inl q)
      have he : zs.toArray[m]! = zs.toArray[m - 1]! := Classical.byContradiction fun q => hk (.inr q)
      rw [hg m (by omega), hg (m - 1) (by omega)] at he
      have hin : zs[m]! ∈ zs.take m := by
        rw [he, getElem!_pos zs (m - 1) (by omega)]
        exact List.mem_take_iff_getElem.2 ⟨m - 1, by omega, rfl⟩
      refine ⟨h1, fun x => ?_⟩
      rw [h2, List.mem_append, List.mem_singleton]
      exact ⟨.inl, fun q => q.elim id fun q => q ▸ hin⟩
/-- A queue's name, as bytes. -/
def qnL (t : Nat) : List UInt8 := [113, UInt8.ofNat (97 + t % 8)]
theorem qnL_inj {a b : Nat} (h : qnL a = qnL b) : a % 8 = b % 8 := by
  have : UInt8.ofNat (97 + a % 8) = UInt8.ofNat (97 + b % 8) := by unfold qnL at h; simpa using h
  have := congrArg UInt8.toNat this
  rw [UInt8.toNat_ofNat', UInt8.toNat_ofNat'] at this
  omega
theorem qnL_mod (t : Nat) : qnL (t % 8) = qnL t := by unfold qnL; rw [Nat.mod_mod]
theorem qnL_of {a b : Nat} (h : a % 8 = b % 8) : qnL a = qnL b := by rw [← qnL_mod a, h, qnL_mod]
theorem qn_enc (t : Nat) : Value.string (qn t) = encStr (qnL t) := rfl
theorem mem_qnL (ts : List Nat) (t : Nat) : qnL t ∈ ts.map qnL ↔ ∃ x ∈ ts, x % 8 = t % 8 := by
  rw [List.mem_map]
  exact ⟨fun ⟨x, h, e⟩ => ⟨x, h, qnL_inj e⟩, fun ⟨x, h, e⟩ => ⟨x, h, qnL_of e⟩⟩
/-- Sorted, each once: so many. -/
theorem kinds_len (ts : List Nat) : (compactUpTo ((ts.map qnL).mergeSort fun x y => decide (x ≤ y)).toArray ((ts.map qnL).mergeSort fun x y => decide (x ≤ y)).length).length = kindsB ts := by
  have hs : ((ts.map qnL).mergeSort fun x y => decide (x ≤ y)).Pairwise (fun a b => a ≤ b) := by
    have := List.pairwise_mergeSort (le := fun x y : List UInt8 => decide (x ≤ y)) (fun a b c h1 h2 => by simp only [decide_eq_true_eq] at *; exact List.le_trans h1 h2) (fun a b => by simp only [Bool.or_eq_true, decide_eq_true_eq]; exact List.le_total a b) (ts.map qnL)
    exact this.imp fun h => by simpa using h
  obtain ⟨h1, h2⟩ := compact_spec (fun a b : List UInt8 => a ≤ b) (fun a b p q => List.le_antisymm p q) _ hs _ (Nat.le_refl _)
  have hr : ((List.range 8).filter fun k => ts.any fun x => x % 8 == k).Nodup := List.Nodup.sublist List.filter_sublist List.nodup_range
  have hn : (((List.range 8).filter fun k => ts.any fun x => x % 8 == k).map qnL).Nodup := by
    rw [List.Nodup, List.pairwise_map]
    refine List.Pairwise.imp_of_mem ?_ hr
    intro a b ha hb hab e
    have ha := List.mem_range.1 (List.mem_filter.1 ha).1
    have hb := List.mem_range.1 (List.mem_filter.1 hb).1
    have := qnL_inj e
    exact hab (by omega)
  have hp := (List.perm_ext_iff_of_nodup h1 hn).2 fun x => by
    rw [h2, List.take_length, (List.mergeSort_perm _ _).mem_iff, List.mem_map, List.mem_map]
    constructor
    · rintro ⟨t, ht, rfl⟩
      exact ⟨t % 8, List.mem_filter.2 ⟨List.mem_range.2 (Nat.mod_lt _ (by decide)), List.any_eq_true.2 ⟨t, ht, by simp⟩⟩, qnL_mod t⟩
    · rintro ⟨k, hk, rfl⟩
      obtain ⟨hk1, hk2⟩ := List.mem_filter.1 hk
      obtain ⟨t, ht, e⟩ := List.any_eq_true.1 hk2
      have e : t % 8 = k := by simpa using e
      exact ⟨t, ht, by rw [← e, qnL_mod]⟩
  rw [hp.length_eq, List.length_map]
  rfl
/-- Those that are of another queue. -/
theorem others_len (ts : List Nat) (t : Nat) : ((ts.map qnL).filter fun x => !decide (x = qnL t)).length = ts.length - (ts.filter fun x => x % 8 == t % 8).length ∧ (ts.filter fun x => x % 8 == t % 8).length ≤ ts.length := by
  have h1 : (ts.map qnL).filter (fun x => !decide (x = qnL t)) = (ts.filter fun x => !(x % 8 == t % 8)).map qnL := by
    rw [List.filter_map]
    congr 1
    refine List.filter_congr fun x _ => ?_
    simp only [Function.comp]
    by_cases e : x % 8 = t % 8
    · simp [e, qnL_of e]
    · have : qnL x ≠ qnL t := fun q => e (qnL_inj q)
      simp [e, this]
  rw [h1, List.length_map]
  have h2 : ∀ l : List Nat, (l.filter fun x => x % 8 == t % 8).length + (l.filter fun x => !(x % 8 == t % 8)).length = l.length := fun l => by
    induction l with
    | nil => rfl
    | cons a l ih => by_cases e : a % 8 = t % 8 <;> simp [e] <;> omega
  have := h2 ts
  omega
end Go.Proofs.YtkjdclpneaepkaaGreat
