/- Rows of whole numbers of the law's own; rising rows. Plain. -/
import Derived.Test.YtdbgplnjppaimaaGreatTim2L
import Derived.Test.YtdbgplnjppaimaaGreatRowk
open Go Go.Proofs Go.RowKit Go.Deep
namespace Go.Proofs.YtdbgplnjppaimaaGreat
def iC (x : Int) : List Value := [.int .i64 x]
theorem iC_len (x : Int) : (iC x).length = 1 := rfl
theorem iC_one (x : Int) : ∀ u ∈ iC x, u.oneCell' = true := by
  intro u hu; simp only [iC, List.mem_singleton] at hu; subst hu; rfl
theorem flat1 : ∀ l : List Int, l.flatMap iC = l.map (Value.int .i64)
  | [] => rfl
  | x :: l => by rw [List.flatMap_cons, flat1 l]; rfl
/-- A row of whole numbers, made behind w0. -/
def RowP (E : TypeId) (B : Nat) (w : World) (v : Value) (L : List Int) : Prop := ∃ ao cp, v = .slice ao L.length cp ∧ w.ownsRow 0 E 1 v L.length (L.flatMap iC) ∧ ∀ g, v.ownBlock = some g → B ≤ g
theorem RowP.keep {E : TypeId} {B : Nat} {F : Nat → Prop} {w w' : World} {v : Value} {L : List Int} (h : RowP E B w v L) (hk : Keep F w w') (hf : ∀ g, v.ownBlock = some g → ¬ F g) : RowP E B w' v L := by
  obtain ⟨ao, cp, e, h1, h2⟩ := h
  exact ⟨ao, cp, e, row_keep h1 hk hf, h2⟩
theorem RowP.lt {E : TypeId} {B : Nat} {w : World} {v : Value} {L : List Int} (h : RowP E B w v L) : ∀ g, v.ownBlock = some g → g < w.heap.size := by
  obtain ⟨ao, cp, e, h1, h2⟩ := h
  exact row_lt h1
theorem RowP.lo {E : TypeId} {B : Nat} {w : World} {v : Value} {L : List Int} (h : RowP E B w v L) : ∀ g, v.ownBlock = some g → B ≤ g := by
  obtain ⟨ao, cp, e, h1, h2⟩ := h
  exact h2
theorem RowP.less {E : TypeId} {B B' : Nat} {w : World} {v : Value} {L : List Int} (h : RowP E B w v L) (hb : B' ≤ B) : RowP E B' w v L := by
  obtain ⟨ao, cp, e, h1, h2⟩ := h
  exact ⟨ao, cp, e, h1, fun g hg => Nat.le_trans hb (h2 g hg)⟩
theorem RowP.nil {E : TypeId} {B : Nat} {w : World} : RowP E B w (.slice none 0 0) [] := ⟨none, 0, rfl, World.ownsRow_nil _ _ _ _, nofun⟩
theorem RowP.slice {E : TypeId} {B : Nat} {w : World} {v : Value} {L : List Int} {n : Nat} (h : RowP E B w v L) (hn : L.length = n) : ∃ ao cp, v = .slice ao n cp ∧ n ≤ cp ∧ (cp : Int) ≤ 9223372036854775807 ∧ w.ownsRow 0 E 1 (.slice ao n cp) n (L.flatMap iC) := by
  subst hn
  obtain ⟨ao, cp, rfl, h1, h2⟩ := h
  have hc := row_cap h1
  obtain ⟨hc1, hc2⟩ := hc
  unfold maxLen at hc2
  exact ⟨ao, cp, rfl, hc1, by omega, h1⟩
theorem row_at {E : TypeId} {b n cp : Nat} {w : World} {ao : Option Addr} {l : List Int} (h : w.ownsRow b E 1 (.slice ao n cp) n (l.flatMap iC)) (hl : l.length = n) (i : Nat) (hi : i < l.length) : ∃ g, ao = some ⟨g, 0, none⟩ ∧ w.cell? ⟨g, i, none⟩ = some (.int .i64 l[i]) := by
  obtain ⟨g, e, hc⟩ := rowK_cell iC_len h hl i hi
  exact ⟨g, e, by simpa using hc 0 _ rfl⟩
theorem row_set {E : TypeId} {b n cp : Nat} {w : World} {ao : Option Addr} {l : List Int} (h : w.ownsRow b E 1 (.slice ao n cp) n (l.flatMap iC)) (hl : l.length = n) (i : Nat) (hi : i < l.length) (x : Int) : ∃ g, ao = some ⟨g, 0, none⟩ ∧ w.cell? ⟨g, i, none⟩ = some (.int .i64 l[i]) ∧ w.frozen? ⟨g, i, none⟩ = false ∧
    (w.setCell ⟨g, i, none⟩ (.int .i64 x)).ownsRow b E 1 (.slice ao n cp) n ((l.set i x).flatMap iC) ∧ Keep (fun k => k = g) w (w.setCell ⟨g, i, none⟩ (.int .i64 x)) := by
  obtain ⟨g, rfl, hc⟩ := row_at h hl i hi
  refine ⟨g, rfl, hc, ?_, ?_, (Keep.refl (fun k => k = g) w).setCell (p := ⟨g, i, none⟩) (fun _ => rfl) _⟩
  · rcases h.2 with ⟨e, he⟩ | ⟨g', cap, cur, e, _, hg, hn, hcm, hcs, htk⟩
    · cases e
    · injection e with e1 e2 e3; injection e1 with e1; injection e1 with e1; subst e1
      exact free_of_heap hg i
  · rcases h with ⟨h0, ⟨e, he⟩ | ⟨g', cap, cur, e, hb, hg, hn, hcm, hcs, htk⟩⟩
    · cases e
    · injection e with e1 e2 e3; injection e1 with e1; injection e1 with e1; subst e1 e3
      refine ⟨by rw [flat1]; simp [hl], .inr ⟨g, cp, cur.setIfInBounds i (.int .i64 x), rfl, hb, ?_, hn, hcm, by simpa using hcs, ?_⟩⟩
      · simp [World.setCell, Array.getElem?_modify, hg]
      · rw [flat1] at htk ⊢
        rw [Array.toList_setIfInBounds, List.take_set, htk, List.map_set]
def cL (K : List Int) (x : Int) (k : Nat) : Bool := match K[k]? with
  | some y => decide (y < x)
  | none => false
theorem cL_in {K : List Int} {x : Int} {k : Nat} (hk : k < K.length) : cL K x k = decide (K[k] < x) := by unfold cL; rw [List.getElem?_eq_getElem hk]
theorem cL_out {K : List Int} {x : Int} {k : Nat} (hk : K.length ≤ k) : cL K x k = false := by unfold cL; rw [List.getElem?_eq_none hk]
theorem cL_lt {K : List Int} {x : Int} {k : Nat} (h : cL K x k = true) : k < K.length := by
  apply Classical.byContradiction
  intro e
  rw [cL_out (by omega)] at h; cases h
theorem take_less {K : List Int} {x : Int} {k : Nat} (h1 : ∀ y ∈ K.take k, y < x) (h2 : cL K x k = true) : ∀ y ∈ K.take (k + 1), y < x := by
  have hk := cL_lt h2
  rw [cL_in hk] at h2
  intro y hy
  rw [List.take_succ_eq_append_getElem hk] at hy
  rcases List.mem_append.1 hy with h | h
  · exact h1 y h
  · rw [List.mem_singleton] at h; subst h; exact of_decide_eq_true h2
theorem mem_split {K : List Int} {y : Int} (k : Nat) : y ∈ K ↔ y ∈ K.take k ∨ y ∈ K.drop k := by rw [← List.mem_append, List.take_append_drop]
theorem drop_ge {K : List Int} (h : K.Pairwise (· < ·)) {k : Nat} (hk : k < K.length) : ∀ y ∈ K.drop (k + 1), K[k] < y := by
  intro y hy
  have hp : (K[k] :: K.drop (k + 1)).Pairwise (· < ·) := by rw [← List.drop_eq_getElem_cons hk]; exact h.sublist (List.drop_sublist _ _)
  exact (List.pairwise_cons.1 hp).1 y hy
/-- Is x there? At the place where the search ended. -/
theorem in_at {K : List Int} (h : K.Pairwise (· < ·)) {x : Int} {k : Nat} (h1 : ∀ y ∈ K.take k, y < x) (h2 : cL K x k = false) : (x ∈ K ↔ ∃ hk : k < K.length, K[k] = x) := by
  constructor
  · intro hx
    rcases (mem_split k).1 hx with e | e
    · have := h1 x e; omega
    · have hk : k < K.length := by
        apply Classical.byContradiction
        intro hn
        rw [List.drop_eq_nil_of_le (by omega)] at e; cases e
      refine ⟨hk, ?_⟩
      rw [cL_in hk] at h2
      have h3 := of_decide_eq_false h2
      rw [List.drop_eq_getElem_cons hk] at e
      rcases List.mem_cons.1 e with e | e
      · exact e.symm
      · have := drop_ge h hk x e; omega
  · rintro ⟨hk, rfl⟩; exact List.getElem_mem hk
def insAt (l : List Int) (k : Nat) (x : Int) : List Int := l.take k ++ x :: l.drop k
theorem insAt_length {l : List Int} {k : Nat} {x : Int} (h : k ≤ l.length) : (insAt l k x).length = l.length + 1 := by
  simp [insAt]; omega
theorem mem_insAt {l : List Int} {k : Nat} {x y : Int} : y ∈ insAt l k x ↔ y = x ∨ y ∈ l := by
  unfold insAt
  rw [mem_split (K := l) k, List.mem_append, List.mem_cons]
  constructor
  · rintro (h | h | h)
    · exact .inr (.inl h)
    · exact .inl h
    · exact .inr (.inr h)
  · rintro (h | h | h)
    · exact .inr (.inl h)
    · exact .inl h
    · exact .inr (.inr h)
theorem ins_rise {K : List Int} (h : K.Pairwise (· < ·)) {x : Int} {k : Nat} (h1 : ∀ y ∈ K.take k, y < x) (h2 : cL K x k = false) (hx : x ∉ K) : (insAt K k x).Pairwise (· < ·) := by
  have hd : ∀ y ∈ K.drop k, x < y := by
    intro y hy
    by_cases hk : k < K.length
    · rw [cL_in hk] at h2
      have h3 := of_decide_eq_false h2
      have hne : K[k] ≠ x := fun e => hx (e ▸ List.getElem_mem hk)
      rw [List.drop_eq_getElem_cons hk] at hy
      rcases List.mem_cons.1 hy with e | e
      · omega
      · have := drop_ge h hk y e; omega
    · rw [List.drop_eq_nil_of_le (by omega)] at hy; cases hy
  unfold insAt
  refine List.pairwise_append.2 ⟨h.sublist (List.take_sublist _ _), List.pairwise_cons.2 ⟨hd, h.sublist (List.drop_sublist _ _)⟩, fun a ha b hb => ?_⟩
  have ha2 := h1 a ha
  rcases List.mem_cons.1 hb with e | e
  · omega
  · have := hd b e; omega
theorem ins_map {K : List Int} {f : Int → Int} {x v : Int} {k : Nat} (hx : x ∉ K) : insAt (K.map f) k v = (insAt K k x).map (fun z => if z = x then v else f z) := by
  have h1 : ∀ l : List Int, (∀ y ∈ l, y ∈ K) → l.map f = l.map (fun z => if z = x then v else f z) := fun l hl => List.map_congr_left fun y hy => by
    rw [if_neg]; rintro rfl; exact hx (hl y hy)
  unfold insAt
  rw [List.map_append, List.map_cons, if_pos rfl, ← List.map_take, ← List.map_drop, h1 _ (fun y hy => List.mem_of_mem_take hy), h1 _ (fun y hy => List.mem_of_mem_drop hy)]
theorem set_map {K : List Int} (h : K.Pairwise (· < ·)) {f : Int → Int} {v : Int} {k : Nat} (hk : k < K.length) : (K.map f).set k v = K.map (fun z => if z = K[k] then v else f z) := by
  refine List.ext_getElem (by simp) fun i h1 h2 => ?_
  simp at h1
  rw [List.getElem_set, List.getElem_map, List.getElem_map]
  by_cases e : k = i
  · subst e; rw [if_pos rfl, if_pos rfl]
  · rw [if_neg e, if_neg]
    intro e2
    rcases Nat.lt_or_gt_of_ne e with hl | hl
    · have := List.pairwise_iff_getElem.1 h k i hk h1 hl; omega
    · have := List.pairwise_iff_getElem.1 h i k h1 hk hl; omega
theorem mem_cut {K : List Int} (h : K.Pairwise (· < ·)) {k : Nat} (hk : k < K.length) {y : Int} : y ∈ K.eraseIdx k ↔ y ∈ K ∧ y ≠ K[k] := by
  rw [List.eraseIdx_eq_take_drop_succ, List.mem_append]
  have hs : y ∈ K ↔ y ∈ K.take k ∨ y = K[k] ∨ y ∈ K.drop (k + 1) := by rw [mem_split k, List.drop_eq_getElem_cons hk, List.mem_cons]
  have ht : ∀ z ∈ K.take k, z < K[k] := by
    intro z hz
    obtain ⟨i, hi, rfl⟩ := List.mem_iff_getElem.1 hz
    rw [List.length_take] at hi
    rw [List.getElem_take]
    exact List.pairwise_iff_getElem.1 h i k (by omega) hk (by omega)
  rw [hs]
  constructor
  · rintro (e | e)
    · exact ⟨.inl e, by have := ht y e; omega⟩
    · exact ⟨.inr (.inr e), by have := drop_ge h hk y e; omega⟩
  · rintro ⟨e | e | e, hne⟩
    · exact .inl e
    · exact absurd e hne
    · exact .inr e
theorem cut_map {K : List Int} {f : Int → Int} {k : Nat} : (K.map f).eraseIdx k = (K.eraseIdx k).map f := by
  rw [List.eraseIdx_eq_take_drop_succ, List.eraseIdx_eq_take_drop_succ, List.map_append, List.map_take, List.map_drop]
theorem rise_uniq {l l' : List Int} (h1 : l.Pairwise (· < ·)) (h2 : l'.Pairwise (· < ·)) (h : ∀ x, x ∈ l ↔ x ∈ l') : l = l' := by
  have hn : ∀ {l : List Int}, l.Pairwise (· < ·) → l.Nodup := fun h => List.nodup_iff_pairwise_ne.2 (h.imp fun {a b} h => by omega)
  refine List.Perm.eq_of_pairwise (le := (· < ·)) (fun a b _ _ h3 h4 => by omega) h1 h2 ((List.perm_ext_iff_of_nodup (hn h1) (hn h2)).2 h)
/-- A rising row filtered: the j-th stands at the place of how many stand ahead of it. -/
theorem filter_at {K : List Int} {c : Int → Bool} {j : Nat} (hj : j < K.length) (hc : c K[j] = true) : ∃ h : ((K.take j).filter c).length < (K.filter c).length, (K.filter c)[((K.take j).filter c).length] = K[j] := by
  have e : K.filter c = (K.take j).filter c ++ K[j] :: (K.drop (j + 1)).filter c := by
    conv => lhs; rw [← List.take_append_drop j K, List.filter_append, List.drop_eq_getElem_cons hj, List.filter_cons_of_pos hc]
  have hl : ((K.take j).filter c).length < (K.filter c).length := by rw [e]; simp
  refine ⟨hl, ?_⟩
  have h3 : (K.filter c)[((K.take j).filter c).length]? = some K[j] := by rw [e, List.getElem?_append_right (Nat.le_refl _), Nat.sub_self]; rfl
  rw [List.getElem?_eq_getElem hl] at h3
  exact Option.some.inj h3
theorem filter_succ {K : List Int} {c : Int → Bool} {j : Nat} (hj : j < K.length) : ((K.take (j + 1)).filter c).length = ((K.take j).filter c).length + if c K[j] then 1 else 0 := by
  rw [List.take_succ_eq_append_getElem hj, List.filter_append, List.length_append]
  by_cases h : c K[j] = true
  · simp [h]
  · simp [h]
theorem srt_rise (ks : List Int) : (srtL ks).Pairwise (· < ·) := by
  have h1 : (srtL ks).Pairwise (fun a b => leI a b = true) := List.pairwise_mergeSort (by intro a b c; simp [leI]; omega) (by intro a b; simp [leI]; omega) _
  have h2 := nodup_srtL ks
  exact (h1.and h2).imp fun {a b} h => by have h3 := h.1; have h4 := h.2; simp [leI] at h3; omega
end Go.Proofs.YtdbgplnjppaimaaGreat
