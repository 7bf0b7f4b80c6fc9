/- The bag's search: its closure, slices.BinarySearchFunc, find. -/
import Derived.Test.YtdbgplnjppaimaaGreatBagK
import Derived.Test.YtdbgplnjppaimaaGreatChecked
import Derived.Deep.CutRange
import Derived.Deep.RegionHeld
import Derived.Shelf.SlSortCmp.Kit1
open Go Go.RowKit
namespace Go.Proofs.YtdbgplnjppaimaaGreat
/-- A slice of pairs that can be read. -/
def SlPI (w : World) (ao : Option Addr) (cp : Nat) (l : List (Int × Int)) : Prop :=
  l.length ≤ cp ∧ cp ≤ maxLen ∧ ∀ i (h : i < l.length), ∃ g off, ao = some ⟨g, off, none⟩ ∧ w.cell? ⟨g, off + i * 2, none⟩ = some (.int .i64 l[i].1) ∧ w.cell? ⟨g, off + i * 2 + 1, none⟩ = some (.int .i64 l[i].2)
theorem SlPI.keep {F : Nat → Prop} {w w' : World} {ao : Option Addr} {cp : Nat} {l : List (Int × Int)} (h : SlPI w ao cp l) (hk : Keep F w w') (hn : ∀ a, ao = some a → ¬ F a.block) : SlPI w' ao cp l := by
  refine ⟨h.1, h.2.1, fun i hi => ?_⟩
  obtain ⟨g, off, rfl, hc, hd⟩ := h.2.2 i hi
  exact ⟨g, off, rfl, hk.cell' hc (hn ⟨g, off, none⟩ rfl), hk.cell' hd (hn ⟨g, off, none⟩ rfl)⟩
def flatI (l : List (Int × Int)) : List Value := l.flatMap fun p => [.int .i64 p.1, .int .i64 p.2]
theorem flatI_length (l : List (Int × Int)) : (flatI l).length = l.length * 2 := by
  induction l with
  | nil => rfl
  | cons a l ih => simp [flatI] at ih ⊢; omega
theorem flatI_append (l m : List (Int × Int)) : flatI (l ++ m) = flatI l ++ flatI m := by simp [flatI]
theorem flatI_get (l : List (Int × Int)) (i : Nat) (hi : i < l.length) : (flatI l)[i * 2]? = some (.int .i64 l[i].1) ∧ (flatI l)[i * 2 + 1]? = some (.int .i64 l[i].2) := by
  have e : l = l.take i ++ l[i] :: l.drop (i + 1) := by rw [← List.drop_eq_getElem_cons hi, List.take_append_drop]
  have hl : (flatI (l.take i)).length = i * 2 := by rw [flatI_length, List.length_take, Nat.min_eq_left (Nat.le_of_lt hi)]
  have e2 : flatI l = flatI (l.take i) ++ (.int .i64 l[i].1 :: .int .i64 l[i].2 :: flatI (l.drop (i + 1))) := by
    conv => lhs; rw [e]
    rw [flatI_append]; rfl
  rw [e2]
  constructor
  · rw [List.getElem?_append_right (by omega), hl, Nat.sub_self]; rfl
  · rw [List.getElem?_append_right (by omega), hl, show i * 2 + 1 - i * 2 = 1 by omega]; rfl
theorem row_slPI {b : Nat} {w : World} {ao : Option Addr} {cp n : Nat} {e : TypeId} {l : List (Int × Int)} (hl : l.length = n) (h : w.ownsRow b e 2 (.slice ao n cp) n (flatI l)) : SlPI w ao cp l := by
  subst hl
  rcases h.2 with ⟨e, he⟩ | ⟨g, cap, cur, e, _, hg, hn, hc, hcs, htk⟩
  · injection e with e1 e2 e3
    have : l = [] := List.eq_nil_of_length_eq_zero (by omega)
    subst this
    exact ⟨by simp, by unfold maxLen; omega, by simp⟩
  · injection e with e1 e2 e3
    subst e1 e3
    refine ⟨hn, hc, fun i hi => ⟨g, 0, rfl, ?_, ?_⟩⟩
    · have := h.cells (g := g) rfl (i * 2) _ (flatI_get l i hi).1
      rw [addr_at] at this; exact this
    · have := h.cells (g := g) rfl (i * 2 + 1) _ (flatI_get l i hi).2
      rw [addr_at] at this
      rw [Nat.add_assoc]; exact this
def BsPI (l : List (Int × Int)) (cf : Int → Int) (i : Nat) : Prop := i ≤ l.length ∧ (∀ k (hk : k < l.length), k < i → cf l[k].1 < 0) ∧ (∀ k (hk : k < l.length), i ≤ k → 0 ≤ cf l[k].1)
def foundI (l : List (Int × Int)) (cf : Int → Int) (i : Nat) : Bool := match l[i]? with | some p => cf p.1 == 0 | none => false
def BsPost (w : World) (l : List (Int × Int)) (cf : Int → Int) (e : Ending) (w' : World) : Prop :=
  ∃ i : Nat, e = .returned (.tuple #[.int .i64 i, .bool (foundI l cf i)]) ∧ BsPI l cf i ∧ Keep NoF w w'
/-- A bag's state: how it compares, what lies in it. -/
structure BagI (w : World) (b g : Nat) (cb : Array Value) (v : Value) (l : List (Int × Int)) : Prop where
  row : w.heap[b]? = some (.cells #[.func (.func g) #[] cb, v] 113 (0, 0))
  own : w.ownsRow 0 190 2 v l.length (flatI l)
  ne : v.ownBlock ≠ some b
theorem BagI.keep {F : Nat → Prop} {w w' : World} {b g : Nat} {cb : Array Value} {v : Value} {l : List (Int × Int)} (h : BagI w b g cb v l) (hk : Keep F w w') (h1 : ¬ F b) (h2 : ∀ k, v.ownBlock = some k → ¬ F k) : BagI w' b g cb v l :=
  ⟨by rw [hk.block b (lt_of_heap h.row) h1]; exact h.row, row_keep h.own hk h2, h.ne⟩
end Go.Proofs.YtdbgplnjppaimaaGreat
