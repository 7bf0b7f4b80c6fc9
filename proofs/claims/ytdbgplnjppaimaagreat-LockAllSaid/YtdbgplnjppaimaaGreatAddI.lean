/- The bag's Add. -/
import Derived.Test.YtdbgplnjppaimaaGreatBsI
import Derived.Test.YtdbgplnjppaimaaGreatInsI
import Derived.Test.YtdbgplnjppaimaaGreatDelI
open Go Go.RowKit
namespace Go.Proofs.YtdbgplnjppaimaaGreat
theorem flatI_take (l : List (Int × Int)) (i : Nat) (hi : i ≤ l.length) : flatI (l.take i) = (flatI l).take (i * 2) := by
  have e : flatI l = flatI (l.take i) ++ flatI (l.drop i) := by rw [← flatI_append, List.take_append_drop]
  rw [e]
  exact (List.take_left' (by rw [flatI_length, List.length_take, Nat.min_eq_left hi])).symm
theorem flatI_drop (l : List (Int × Int)) (i : Nat) (hi : i ≤ l.length) : flatI (l.drop i) = (flatI l).drop (i * 2) := by
  have e : flatI l = flatI (l.take i) ++ flatI (l.drop i) := by rw [← flatI_append, List.take_append_drop]
  rw [e]
  exact (List.drop_left' (by rw [flatI_length, List.length_take, Nat.min_eq_left hi])).symm
theorem flatI_one (l : List (Int × Int)) : ∀ u ∈ flatI l, u.oneCell' = true := by
  intro u hu
  unfold flatI at hu
  obtain ⟨p, _, hp⟩ := List.mem_flatMap.1 hu
  simp at hp
  rcases hp with rfl | rfl <;> rfl
theorem flatI_set (l : List (Int × Int)) (i : Nat) (hi : i < l.length) (m : Int) : flatI (l.set i (l[i].1, m)) = (flatI l).set (i * 2 + 1) (.int .i64 m) := by
  have hl : (flatI (l.take i)).length = i * 2 := by rw [flatI_length, List.length_take, Nat.min_eq_left (Nat.le_of_lt hi)]
  have e2 : flatI l = flatI (l.take i) ++ (.int .i64 l[i].1 :: .int .i64 l[i].2 :: flatI (l.drop (i + 1))) := by
    have e : l = l.take i ++ l[i] :: l.drop (i + 1) := by rw [← List.drop_eq_getElem_cons hi, List.take_append_drop]
    conv => lhs; rw [e]
    rw [flatI_append]; rfl
  rw [List.set_eq_take_append_cons_drop, if_pos hi, flatI_append, e2, List.set_append_right _ _ (by omega), hl, show i * 2 + 1 - i * 2 = 1 by omega]
  rfl
/-- How many there were, at place i. -/
def hadI (l : List (Int × Int)) (cf : Int → Int) (i : Nat) : Int := if foundI l cf i = true then (l.getD i (0, 0)).2 else 0
def nowI (l : List (Int × Int)) (cf : Int → Int) (i : Nat) (n : Int) : Int := max (hadI l cf i + n) 0
def addI (l : List (Int × Int)) (cf : Int → Int) (i : Nat) (t n : Int) : List (Int × Int) :=
  if foundI l cf i = true then (if nowI l cf i n = 0 then l.take i ++ l.drop (i + 1) else l.set i ((l.getD i (0, 0)).1, nowI l cf i n))
  else (if nowI l cf i n = 0 then l else l.take i ++ (t, nowI l cf i n) :: l.drop i)
def AddPI (w : World) (b g : Nat) (cb : Array Value) (v : Value) (l : List (Int × Int)) (cf : Int → Int) (t n : Int) (e : Ending) (w' : World) : Prop :=
  ∃ i v', BsPI l cf i ∧ e = .returned (.int .i64 (nowI l cf i n)) ∧ BagI w' b g cb v' (addI l cf i t n) ∧ Keep (fun k => k = b ∨ v.ownBlock = some k) w w' ∧ (∀ k, v'.ownBlock = some k → v.ownBlock = some k ∨ w.heap.size ≤ k)
theorem bag_store {w : World} {b g : Nat} {cb : Array Value} {v v' : Value} {l : List (Int × Int)} (hr : w.heap[b]? = some (.cells #[.func (.func g) #[] cb, v] 113 (0, 0))) (ho : w.ownsRow 0 190 2 v' l.length (flatI l)) (hn : v'.ownBlock ≠ some b) :
    BagI (w.setCell ⟨b, 1, none⟩ v') b g cb v' l ∧ Keep (fun k => k = b) w (w.setCell ⟨b, 1, none⟩ v') := by
  have hk : Keep (fun k => k = b) w (w.setCell ⟨b, 1, none⟩ v') := (Keep.refl (fun k => k = b) w).setCell (p := ⟨b, 1, none⟩) (fun _ => rfl) _
  refine ⟨⟨?_, row_keep ho hk (fun k hk e => hn (by rw [hk, e])), hn⟩, hk⟩
  have := heap_setCell_same w b 1 _ _ v' hr
  rw [this]
  rfl
theorem foundI_lt {l : List (Int × Int)} {cf : Int → Int} {i : Nat} (h : foundI l cf i = true) : ∃ hi : i < l.length, cf l[i].1 = 0 := by
  unfold foundI at h
  by_cases hi : i < l.length
  · rw [List.getElem?_eq_getElem hi] at h
    exact ⟨hi, by simpa using h⟩
  · rw [List.getElem?_eq_none (by omega)] at h; cases h
end Go.Proofs.YtdbgplnjppaimaaGreat
