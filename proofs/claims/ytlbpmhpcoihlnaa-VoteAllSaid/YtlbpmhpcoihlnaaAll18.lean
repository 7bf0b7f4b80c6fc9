/- For VoteAll: a slice of votes that came in; the law's own eq; plain words on rising rows. -/
import Derived.Test.YtlbpmhpcoihlnaaArgs18
import Derived.BigQuiet
import Derived.ChangeSame
open Go Go.RowKit
namespace Go.Proofs.Ytlbpmhpcoihlnaa

structure OpW where
  who : Int
  yes : Bool
instance : Inhabited OpW := ⟨⟨0, false⟩⟩
/-- A slice of votes that came in. -/
def IsOpsW (w : World) (a : Option Addr) (len cap : Nat) (z : Nat → OpW) : Prop :=
  len ≤ cap ∧ cap ≤ maxLen ∧ ∀ i, i < len → (Lit.int .i64 (z i).who).wf = true ∧ ∃ g off, a = some ⟨g, off, none⟩ ∧ w.cell? ⟨g, off + i * 2, none⟩ = some (.int .i64 (z i).who) ∧
    w.cell? ⟨g, off + i * 2 + 1, none⟩ = some (.bool (z i).yes)
theorem list2 {α : Type} {l : List α} (h : l.length = 2) : ∃ a b, l = [a, b] := by
  match l, h with
  | [a, b], _ => exact ⟨a, b, rfl⟩
theorem open_opsW {H : Type} {enc : TypeId × Value → H} {W : World} {a : Option Addr} {len cap : Nat} {d : DataW H} {p : List MemPlace}
    (h : DataW.Trod enc Try.prog W 0 (fun _ => true) true 23 (.slice a len cap) d p) : ∃ z, IsOpsW W a len cap z := by
  obtain ⟨fuel, hf⟩ := h
  rcases Deep.open_slice Try.underlying23 hf with ⟨hcs, _⟩ | ⟨x, l, c, m, n, D, Pl, hcs, _, hl, hm, hmm, _, hx⟩
  · simp [Value.cells] at hcs
    obtain ⟨rfl, rfl, rfl⟩ := hcs
    exact ⟨default, Nat.le_refl _, by decide, fun i hi => absurd hi (Nat.not_lt_zero _)⟩
  · simp [Value.cells] at hcs
    obtain ⟨rfl, rfl, rfl⟩ := hcs
    simp only [if_true] at hmm
    subst hmm
    have ce : Try.prog.cellsOf 32 = 2 := by kernel_rfl
    have c3 : Try.prog.cellsOf 3 = 1 := by kernel_rfl
    have c4 : Try.prog.cellsOf 4 = 1 := by kernel_rfl
    obtain ⟨z, hz⟩ := Deep.choose_lt (α := OpW) (n := len) (p := fun i y => (Lit.int .i64 y.who).wf = true ∧ W.cell? (x.add (i * 2)) = some (.int .i64 y.who) ∧ W.cell? (x.add (i * 2 + 1)) = some (.bool y.yes)) (fun i hi => by
      obtain ⟨cs', h1, h2⟩ := hx i (by omega)
      rw [ce] at h1
      obtain ⟨_, hlen, hcell⟩ := World.cells?_some h1
      obtain ⟨y0, y1, k, _, _, g0, g1⟩ := ChangeShapes.trod_struct2 Try.underlying32 h2
      obtain ⟨v0, v1, rfl⟩ := list2 hlen
      simp only [c3, c4, List.drop_zero, List.drop_succ_cons, List.take_succ_cons, List.take_zero] at g0 g1
      obtain ⟨n0, e0, _, b0⟩ := DataW.trod_int Try.underlying3 g0
      obtain ⟨n1, e1, _⟩ := DataW.trod_bool Try.underlying4 g1
      simp at e0 e1
      subst e0 e1
      have c0 := hcell 0 (by omega)
      have c1 := hcell 1 (by omega)
      rw [Deep.add_add] at c0 c1
      exact ⟨⟨n0, n1⟩, b0, by simpa using c0, by simpa using c1⟩)
    refine ⟨z, hl, hm, fun i hi => ?_⟩
    have hs := plain_addr (by simpa using (hz 0 (by omega)).2.1)
    refine ⟨(hz i hi).1, x.block, x.off, by rw [hs], ?_, ?_⟩
    · rw [← addr_plain hs]; exact (hz i hi).2.1
    · rw [Nat.add_assoc, ← addr_plain hs]; exact (hz i hi).2.2

theorem row_sliB {b : Nat} {w : World} {ao : Option Addr} {cp n : Nat} {l : List Int} (hl : l.length = n) (h : w.ownsRow b 3 1 (.slice ao n cp) n (l.map (.int .i64))) (hw : ∀ x ∈ l, (Lit.int .i64 x).wf = true) : SlI w ao cp l := by
  subst hl
  rcases h.2 with ⟨e, he⟩ | ⟨g, cap, cur, e, _, hg, hn, hc, hcs, htk⟩
  · injection e with e1 e2 e3
    have : l = [] := List.eq_nil_of_length_eq_zero (by omega)
    subst this
    exact ⟨by simp, by unfold maxLen; omega, by simp, by simp⟩
  · injection e with e1 e2 e3
    subst e1 e3
    refine ⟨hn, hc, hw, fun i hi => ⟨g, 0, rfl, ?_⟩⟩
    rw [Nat.zero_add, h.cellAt i (by omega), List.getElem?_map, List.getElem?_eq_getElem hi]
    rfl
theorem row_slice {w : World} {b s n : Nat} {e : TypeId} {v : Value} {xs : List Value} (h : w.ownsRow b e s v n xs) : ∃ ao cp, v = .slice ao n cp := by
  rcases h.2 with ⟨rfl, he⟩ | ⟨g, cap, cur, rfl, _⟩
  · exact ⟨none, 0, by rw [he]⟩
  · exact ⟨_, _, rfl⟩

theorem eq_any (ao bo : Option Addr) (ca cb : Nat) (la lb : List Int) (n m : Nat) (hn : la.length = n) (hm : lb.length = m) (w : World) (ha : SlI w ao ca la) (hb : SlI w bo cb lb) (hs : n ≤ 1000 ∧ m ≤ 1000) :
    Calls Try.prog 11 #[.slice ao n ca, .slice bo m cb] w fun e w' => e = .returned (.bool (decide (la = lb))) ∧ Keep NoF w w' := by
  have HA := Lib.hid ha; have HB := Lib.hid hb; have HN := Lib.hid hn; have HM := Lib.hid hm
  obtain ⟨r, hr⟩ : ∃ r, decide (la = lb) = r := ⟨_, rfl⟩
  have HR := Lib.hid hr
  rw [hr]
  clear ha hb hr hn hm
  by_cases hnm : n = m
  · subst hnm
    have hne0 : ((n : Int) != n) = false := by simp
    go_enter Try.func11, Try.ntmps11
    go_wp2_with fail
    go_loopw [5] (fun iv wr => ∃ i : Nat, i ≤ n ∧ iv = .int .i64 i ∧ la.take i = lb.take i ∧ Keep NoF w wr) (fun iv _ => n - (intOf iv).toNat)
    case atStart => exact ⟨0, Nat.zero_le _, rfl, by simp, Keep.refl _ _⟩
    case round =>
      obtain ⟨i, hi, rfl, htk, hk⟩ := hrel
      have HT := Lib.hid htk; have KW := Lib.hid hk
      clear htk
      by_cases hlt : i < n
      · have hlt2 : (i : Int) < n := by omega
        obtain ⟨g1, o1, rfl, d1⟩ := (HA.out.keep hk (fun _ _ f => f)).2.2.2 i (by rw [HN.out]; exact hlt)
        obtain ⟨g2, o2, rfl, d2⟩ := (HB.out.keep hk (fun _ _ f => f)).2.2.2 i (by rw [HM.out]; exact hlt)
        have HS : Hid (la.take (i + 1) = la.take i ++ [la[i]'(by rw [HN.out]; exact hlt)] ∧ lb.take (i + 1) = lb.take i ++ [lb[i]'(by rw [HM.out]; exact hlt)]) :=
          Lib.hid ⟨List.take_succ_eq_append_getElem (by rw [HN.out]; exact hlt), List.take_succ_eq_append_getElem (by rw [HM.out]; exact hlt)⟩
        have HI : Hid (la = lb → la[i]'(by rw [HN.out]; exact hlt) = lb[i]'(by rw [HM.out]; exact hlt)) := Lib.hid fun e => by simp [e]
        generalize la[i]'(by rw [HN.out]; exact hlt) = x at d1 HS HI
        generalize lb[i]'(by rw [HM.out]; exact hlt) = y at d2 HS HI
        clear hk
        by_cases hxy : x = y
        · subst hxy
          have hne : (x != x) = false := by simp
          go_wp2_with fail
          go_quiet (fail)
          go_wp2_with fail
          go_roundw
          case rel => exact ⟨i + 1, by omega, by go_num, by rw [HS.out.1, HS.out.2, HT.out], KW.out.drewN _⟩
          case measure => simp [intOf]; omega
        · have hne : (x != y) = true := by simp [hxy]
          have hr : r = false := by rw [← HR.out]; simp only [decide_eq_false_iff_not]; exact fun e => hxy (HI.out e)
          subst hr
          go_wp2_with fail
          go_quiet (fail)
          go_wp2_with fail
          go_ret
          exact ⟨rfl, KW.out.drewN _⟩
      · have hlt2 : ¬ (i : Int) < n := by omega
        have hr : r = true := by
          rw [← HR.out]
          have h1 := HT.out
          rw [List.take_of_length_le (by rw [HN.out]; omega), List.take_of_length_le (by rw [HM.out]; omega)] at h1
          simp [h1]
        subst hr
        clear hk
        go_wp2_with fail
        go_ret
        exact ⟨rfl, KW.out⟩
  · have hne0 : ((n : Int) != m) = true := by simp; omega
    have hr : r = false := by
      rw [← HR.out]; simp only [decide_eq_false_iff_not]
      intro e; rw [e, HM.out] at HN; exact hnm HN.out.symm
    subst hr
    go_enter Try.func11, Try.ntmps11
    go_wp2_with fail
    go_ret
    exact ⟨rfl, Keep.refl _ _⟩

theorem strict_eq : ∀ {l l' : List Int}, l.Pairwise (· < ·) → l'.Pairwise (· < ·) → (∀ x, x ∈ l ↔ x ∈ l') → l = l'
  | [], [], _, _, _ => rfl
  | [], b :: l', _, _, h => by have := (h b).2 (by simp); simp at this
  | a :: l, [], _, _, h => by have := (h a).1 (by simp); simp at this
  | a :: l, b :: l', h1, h2, h => by
    obtain ⟨h1a, h1b⟩ := List.pairwise_cons.1 h1
    obtain ⟨h2a, h2b⟩ := List.pairwise_cons.1 h2
    have hab : a = b := by
      rcases List.mem_cons.1 ((h a).1 (by simp)) with e | e
      · exact e
      · rcases List.mem_cons.1 ((h b).2 (by simp)) with e2 | e2
        · exact e2.symm
        · have := h2a _ e; have := h1a _ e2; omega
    subst hab
    congr 1
    refine strict_eq h1b h2b fun x => ?_
    constructor
    · intro hx
      rcases List.mem_cons.1 ((h x).1 (List.mem_cons_of_mem _ hx)) with e | e
      · have := h1a _ hx; omega
      · exact e
    · intro hx
      rcases List.mem_cons.1 ((h x).2 (List.mem_cons_of_mem _ hx)) with e | e
      · have := h2a _ hx; omega
      · exact e
theorem sortD_strict (ks : List Int) : (sortD ks).Pairwise (· < ·) := by
  have h1 : (sortD ks).Pairwise (fun a b => leI a b = true) := List.pairwise_mergeSort (by intro a b c; simp [leI]; omega) (by intro a b; simp [leI]; omega) _
  have h2 : (sortD ks).Nodup := ((List.mergeSort_perm (ddup ks) leI).nodup_iff).2 (nodup_ddup ks)
  exact (h1.and h2).imp fun {a b} h => by have h3 := h.1; have h4 := h.2; simp [leI] at h3; omega
/-- x put ahead of the k-th. -/
def insAt (l : List Int) (k : Nat) (x : Int) : List Int := l.take k ++ [x] ++ l.drop k
theorem mem_insAt {l : List Int} {k : Nat} {x y : Int} : y ∈ insAt l k x ↔ y = x ∨ y ∈ l := by
  have : y ∈ l ↔ y ∈ l.take k ∨ y ∈ l.drop k := by rw [← List.mem_append, List.take_append_drop]
  unfold insAt
  rw [this]
  simp only [List.mem_append, List.mem_singleton]
  constructor
  · rintro ((h | h) | h)
    · exact .inr (.inl h)
    · exact .inl h
    · exact .inr (.inr h)
  · rintro (h | h | h)
    · exact .inl (.inr h)
    · exact .inl (.inl h)
    · exact .inr h
theorem insAt_length {l : List Int} {k : Nat} {x : Int} (h : k ≤ l.length) : (insAt l k x).length = k + 1 + (l.length - k) := by
  simp [insAt]; omega
theorem drop_gt {l : List Int} (h : l.Pairwise (· < ·)) {k : Nat} {x : Int} (h2 : ∀ hk : k < l.length, x < l[k]) : ∀ y ∈ l.drop k, x < y := by
  intro y hy
  by_cases hk : k < l.length
  · rw [List.drop_eq_getElem_cons hk] at hy
    have h3 := h2 hk
    rcases List.mem_cons.1 hy with e | e
    · omega
    · have hp : (l[k] :: l.drop (k + 1)).Pairwise (· < ·) := by rw [← List.drop_eq_getElem_cons hk]; exact h.sublist (List.drop_sublist _ _)
      have := (List.pairwise_cons.1 hp).1 y e
      omega
  · rw [List.drop_eq_nil_of_le (by omega)] at hy; cases hy
theorem insAt_strict {l : List Int} {k : Nat} {x : Int} (h : l.Pairwise (· < ·)) (h1 : ∀ y ∈ l.take k, y < x) (h2 : ∀ hk : k < l.length, x < l[k]) : (insAt l k x).Pairwise (· < ·) := by
  have hd := drop_gt h h2
  unfold insAt
  rw [List.pairwise_append, List.pairwise_append]
  refine ⟨⟨h.sublist (List.take_sublist _ _), by simp, fun a ha b hb => ?_⟩, h.sublist (List.drop_sublist _ _), fun a ha b hb => ?_⟩
  · rw [List.mem_singleton] at hb; subst hb; exact h1 a ha
  · have := hd b hb
    rcases List.mem_append.1 ha with e | e
    · have := h1 a e; omega
    · rw [List.mem_singleton] at e; omega
/-- What the law writes down of one. -/
def stI (yes : Int → Bool) (ns : List Int) (x : Int) : Int := if x ∈ ns then 2 else if yes x = true then 1 else 0
theorem stI_cases (yes : Int → Bool) (ns : List Int) (x : Int) : stI yes ns x = 0 ∨ stI yes ns x = 1 ∨ stI yes ns x = 2 := by
  unfold stI
  split
  · simp
  · split <;> simp
theorem missD_st {ks : List Int} {yes : Int → Bool} {ns : List Int} {R : List Int} (h : sortD ks = R) : missD ks yes ns = R.filter fun x => stI yes ns x == 0 := by
  subst h
  unfold missD
  refine List.filter_congr fun x hx => ?_
  have hk := memB_yes (mem_sortD.1 hx)
  unfold votedB stI
  rw [hk]
  by_cases h1 : x ∈ ns
  · simp [h1, memB_yes h1]
  · rcases h2 : yes x <;> simp [h1, memB_no h1]
theorem howD_st {ks : List Int} {yes : Int → Bool} {ns : List Int} {R : List Int} (h : sortD ks = R) (hns : ∀ x ∈ ns, x ∈ ks) :
    howD ks yes ns = if R.any (fun x => stI yes ns x == 2) then 2 else if missD ks yes ns = [] then 1 else 0 := by
  subst h
  unfold howD
  by_cases h1 : ns = []
  · subst h1
    have ha : ((sortD ks).any fun x => stI yes [] x == 2) = false := by
      rw [List.any_eq_false]
      intro x _
      unfold stI
      rw [if_neg (by simp)]
      split <;> simp
    rw [if_pos rfl, ha]
    rfl
  · rw [if_neg h1, if_pos]
    obtain ⟨x, hx⟩ := List.exists_mem_of_ne_nil _ h1
    rw [List.any_eq_true]
    exact ⟨x, mem_sortD.2 (hns x hx), by simp [stI, hx]⟩
theorem stI_vote {ks : List Int} {yes : Int → Bool} {ns : List Int} {x who : Int} (y : Bool) (hx : x ∈ ks) :
    stI (yesV ks yes ns who y) (noV ks ns who y) x = if x = who then (if y = false then 2 else if stI yes ns x = 0 then 1 else stI yes ns x) else stI yes ns x := by
  unfold stI yesV noV
  by_cases hw : x = who
  · subst hw
    rw [if_pos rfl]
    cases y
    · simp [hx]
    · by_cases hn : x ∈ ns
      · simp [hn]
      · rcases hy : yes x <;> simp [hn, hx]
  · rw [if_neg hw]
    cases y
    · by_cases hk : who ∈ ks
      · simp [hk, hw]
      · simp [hk]
    · by_cases hk : who ∈ ks ∧ who ∉ ns
      · simp [hk.1, hk.2, hw]
      · by_cases hk1 : who ∈ ks
        · simp [hk1, show who ∈ ns from Classical.byContradiction fun e => hk ⟨hk1, e⟩]
        · simp [hk1]
theorem noV_sub {ks ns : List Int} (h : ∀ x ∈ ns, x ∈ ks) (who : Int) (y : Bool) : ∀ x ∈ noV ks ns who y, x ∈ ks := by
  unfold noV
  split
  · rename_i hc
    intro x hx
    rcases List.mem_cons.1 hx with rfl | hx
    · exact hc.1
    · exact h x hx
  · exact h
/-- The block that the law writes down what was said in. -/
def SD (w : World) (g : Nat) (l : List Int) : Prop := w.heap[g]? = some (.cells (l.map (Value.int .i64)).toArray 3 (0, 0))
theorem SD.cell {w : World} {g : Nat} {l : List Int} (h : SD w g l) (j : Nat) (hj : j < l.length) : w.cell? ⟨g, j, none⟩ = some (.int .i64 l[j]) := by
  rw [cell_of_heap h j]; simp [hj]
theorem SD.set {w : World} {g : Nat} {l : List Int} (h : SD w g l) (j : Nat) (x : Int) : SD (w.setCell ⟨g, j, none⟩ (.int .i64 x)) g (l.set j x) := by
  unfold SD at h ⊢
  simp [World.setCell, Array.getElem?_modify, h, List.map_set]
theorem SD.keep {F : Nat → Prop} {w w' : World} {g : Nat} {l : List Int} (h : SD w g l) (hk : Keep F w w') (hg : ¬ F g) : SD w' g l := by
  unfold SD at h ⊢; rw [hk.block g (lt_of_heap h) hg]; exact h
/-- What is written down when the row was gone through as far as j. -/
def midL (R : List Int) (f f' : Int → Int) (j : Nat) : List Int := (R.take j).map f' ++ (R.drop j).map f
theorem midL_length {R : List Int} {f f' : Int → Int} {j : Nat} : (midL R f f' j).length = R.length := by simp [midL]; omega
theorem midL_zero {R : List Int} {f f' : Int → Int} : midL R f f' 0 = R.map f := by simp [midL]
theorem midL_all {R : List Int} {f f' : Int → Int} : midL R f f' R.length = R.map f' := by simp [midL]
theorem midL_at {R : List Int} {f f' : Int → Int} {j : Nat} (hj : j < R.length) : (midL R f f' j)[j]'(by rw [midL_length]; exact hj) = f R[j] := by
  simp [midL, Nat.min_eq_left (Nat.le_of_lt hj)]
theorem midL_set {R : List Int} {f f' : Int → Int} {j : Nat} (hj : j < R.length) : (midL R f f' j).set j (f' R[j]) = midL R f f' (j + 1) := by
  unfold midL
  rw [List.take_succ_eq_append_getElem hj, List.drop_eq_getElem_cons hj, List.set_append_right _ _ (by simp; omega)]
  simp only [List.length_map, List.length_take, Nat.min_eq_left (Nat.le_of_lt hj), Nat.sub_self, List.map_cons, List.set_cons_zero, List.map_append, List.map_nil, List.append_assoc, List.cons_append, List.nil_append]
theorem midL_same {R : List Int} {f f' : Int → Int} {j : Nat} (hj : j < R.length) (e : f' R[j] = f R[j]) : midL R f f' j = midL R f f' (j + 1) := by
  unfold midL
  rw [List.take_succ_eq_append_getElem hj, List.drop_eq_getElem_cons hj]
  simp only [List.map_cons, List.map_append, List.map_nil, List.append_assoc, List.cons_append, List.nil_append, e]
end Go.Proofs.Ytlbpmhpcoihlnaa
