/- The bag's Add. -/
import Derived.Test.YtdbgplnjppaimaaGreatBsS
import Derived.Test.YtdbgplnjppaimaaGreatInsS
import Derived.Test.YtdbgplnjppaimaaGreatDelS
open Go Go.RowKit Go.Maps Go.Sort Go.Shelf
namespace Go.Proofs.YtdbgplnjppaimaaGreat
theorem flatS_take (l : List (ByteArray × Int)) (i : Nat) (hi : i ≤ l.length) : flatS (l.take i) = (flatS l).take (i * 2) := by
  have e : flatS l = flatS (l.take i) ++ flatS (l.drop i) := by rw [← flatS_append, List.take_append_drop]
  rw [e]
  exact (List.take_left' (by rw [flatS_length, List.length_take, Nat.min_eq_left hi])).symm
theorem flatS_drop (l : List (ByteArray × Int)) (i : Nat) (hi : i ≤ l.length) : flatS (l.drop i) = (flatS l).drop (i * 2) := by
  have e : flatS l = flatS (l.take i) ++ flatS (l.drop i) := by rw [← flatS_append, List.take_append_drop]
  rw [e]
  exact (List.drop_left' (by rw [flatS_length, List.length_take, Nat.min_eq_left hi])).symm
theorem flatS_one (l : List (ByteArray × Int)) : ∀ u ∈ flatS l, u.oneCell' = true := by
  intro u hu
  unfold flatS at hu
  obtain ⟨p, _, hp⟩ := List.mem_flatMap.1 hu
  simp at hp
  rcases hp with rfl | rfl <;> rfl
theorem flatS_set (l : List (ByteArray × Int)) (i : Nat) (hi : i < l.length) (m : Int) : flatS (l.set i (l[i].1, m)) = (flatS l).set (i * 2 + 1) (.int .i64 m) := by
  have hl : (flatS (l.take i)).length = i * 2 := by rw [flatS_length, List.length_take, Nat.min_eq_left (Nat.le_of_lt hi)]
  have e2 : flatS l = flatS (l.take i) ++ (.string l[i].1 :: .int .i64 l[i].2 :: flatS (l.drop (i + 1))) := by
    have e : l = l.take i ++ l[i] :: l.drop (i + 1) := by rw [← List.drop_eq_getElem_cons hi, List.take_append_drop]
    conv => lhs; rw [e]
    rw [flatS_append]; rfl
  rw [List.set_eq_take_append_cons_drop, if_pos hi, flatS_append, e2, List.set_append_right _ _ (by omega), hl, show i * 2 + 1 - i * 2 = 1 by omega]
  rfl
/-- How many there were, at place i. -/
def hadS (l : List (ByteArray × Int)) (cf : ByteArray → Int) (i : Nat) : Int := if foundS l cf i = true then (l.getD i (ByteArray.empty, 0)).2 else 0
def nowS (l : List (ByteArray × Int)) (cf : ByteArray → Int) (i : Nat) (n : Int) : Int := max (hadS l cf i + n) 0
def addS (l : List (ByteArray × Int)) (cf : ByteArray → Int) (i : Nat) (t : ByteArray) (n : Int) : List (ByteArray × Int) :=
  if foundS l cf i = true then (if nowS l cf i n = 0 then l.take i ++ l.drop (i + 1) else l.set i ((l.getD i (ByteArray.empty, 0)).1, nowS l cf i n))
  else (if nowS l cf i n = 0 then l else l.take i ++ (t, nowS l cf i n) :: l.drop i)
def AddPS (w : World) (b g : Nat) (cb : Array Value) (v : Value) (l : List (ByteArray × Int)) (cf : ByteArray → Int) (t : ByteArray) (n : Int) (e : Ending) (w' : World) : Prop :=
  ∃ i v', BsPS l cf i ∧ e = .returned (.int .i64 (nowS l cf i n)) ∧ BagS w' b g cb v' (addS l cf i t n) ∧ Keep (fun k => k = b ∨ v.ownBlock = some k) w w' ∧ (∀ k, v'.ownBlock = some k → v.ownBlock = some k ∨ w.heap.size ≤ k)
theorem bag_storeS {w : World} {b g : Nat} {cb : Array Value} {v v' : Value} {l : List (ByteArray × Int)} (hr : w.heap[b]? = some (.cells #[.func (.func g) #[] cb, v] 109 (0, 0))) (ho : w.ownsRow 0 117 2 v' l.length (flatS l)) (hn : v'.ownBlock ≠ some b) :
    BagS (w.setCell ⟨b, 1, none⟩ v') b g cb v' l ∧ Keep (fun k => k = b) w (w.setCell ⟨b, 1, none⟩ v') := by
  have hk : Keep (fun k => k = b) w (w.setCell ⟨b, 1, none⟩ v') := (Keep.refl (fun k => k = b) w).setCell (p := ⟨b, 1, none⟩) (fun _ => rfl) _
  refine ⟨⟨?_, row_keep ho hk (fun k hk e => hn (by rw [hk, e])), hn⟩, hk⟩
  have := heap_setCell_same w b 1 _ _ v' hr
  rw [this]
  rfl
theorem foundS_lt {l : List (ByteArray × Int)} {cf : ByteArray → Int} {i : Nat} (h : foundS l cf i = true) : ∃ hi : i < l.length, cf l[i].1 = 0 := by
  unfold foundS at h
  by_cases hi : i < l.length
  · rw [List.getElem?_eq_getElem hi] at h
    exact ⟨hi, by simpa using h⟩
  · rw [List.getElem?_eq_none (by omega)] at h; cases h
set_option maxHeartbeats 8000000 in
set_option maxRecDepth 4000 in
theorem addS_any (b g : Nat) (cb : Array Value) (eg : ∀ args w, (callFunc g args).run Tryz.prog w = .ok (.enter g args) w) (v : Value) (l : List (ByteArray × Int)) (t : ByteArray) (n : Int) (cf : ByteArray → Int) (w : World) (h : BagS w b g cb v l) (hn : l.length ≤ 1000000)
    (hlaw : ∀ W, Keep NoF w W → ∀ p ∈ l, Calls Tryz.prog g (#[.string p.1, .string t] ++ cb) W fun e w' => e = .returned (.int .i64 (cf p.1)) ∧ Keep NoF W w')
    (hmono : ∀ i j (hi : i < l.length) (hj : j < l.length), i ≤ j → cf l[j].1 < 0 → cf l[i].1 < 0) (hb : ∀ p ∈ l, 0 ≤ p.2 ∧ p.2 ≤ 1000000) (hnb : -1000000 ≤ n ∧ n ≤ 1000000) :
    Calls Tryz.prog 57 #[.pointer (some ⟨b, 0, none⟩), .string t, .int .i64 n] w (AddPS w b g cb v l cf t n) := by
  have hf := findS_any b g cb eg v l t cf w h hn hlaw hmono
  obtain ⟨ao, cp, rfl⟩ := row_slice h.own
  have H := Lib.hid h; have HF := Lib.hid hf; have HB := Lib.hid hb
  have hlt := lt_of_heap h.row
  obtain ⟨N, hN⟩ : ∃ N, l.length = N := ⟨_, rfl⟩
  have HN := Lib.hid hN
  clear h hf hlaw hmono eg hb
  go_enter Tryz.func57, Tryz.ntmps57
  go_wp2_with fail
  refine HF.out.mono ?_
  rintro e w1 ⟨i, rfl, hbs, hk⟩
  have HBS := Lib.hid hbs; have K1 := Lib.hid hk
  have H1 := Lib.hid (H.out.keep hk (fun f => f) (fun _ _ f => f))
  have hlt1 : b < w1.heap.size := Nat.lt_of_lt_of_le hlt hk.size
  have c1 := cell_of_heap H1.out.row 1
  simp at c1
  have hown := H1.out.own
  rw [hN] at hown c1 hn
  have HOWN := Lib.hid hown
  have hbi := hbs.1
  rw [hN] at hbi
  clear hbs hk HF hN hown
  rcases hfo : foundS l cf i with _ | _
  · have hhad : hadS l cf i = 0 := by unfold hadS; rw [hfo]; rfl
    have HADD : Hid (nowS l cf i n = max n 0 ∧ addS l cf i t n = if max n 0 = 0 then l else l.take i ++ (t, max n 0) :: l.drop i) := Lib.hid (by
      have e : nowS l cf i n = max n 0 := by unfold nowS; rw [hhad, Int.zero_add]
      refine ⟨e, ?_⟩
      unfold addS
      rw [hfo, e]
      rfl)
    clear hfo hhad
    by_cases hpos : 0 < n
    · have hmx : max n 0 = n := by omega
      have hn0 : ¬ n = 0 := by omega
      rw [hmx, if_neg hn0] at HADD
      obtain ⟨q, hq⟩ : ∃ q, w1.heap.size = q := ⟨_, rfl⟩
      have hnew := heap_new w1 (.cells #[.string t, .int .i64 n] 117 (0, 0))
      rw [hq] at hnew
      have HINS := Lib.hid (insS_any ao N cp i q (flatS l) (.string t) (.int .i64 n) _ (HOWN.out.alloc (.cells #[.string t, .int .i64 n] 117 (0, 0))) (flatS_one l) ⟨rfl, rfl⟩ hnew (fun e => by have := row_lt HOWN.out q e; omega) hn hbi)
      have c2 := ((Keep.refl NoF w1).alloc (.cells #[.string t, .int .i64 n] 117 (0, 0))).cell' c1 (fun f => f)
      clear hnew
      go_wp2_with fail
      refine HINS.out.mono ?_
      rintro e w2 ⟨v', rfl, hown', hgr, hfr⟩
      obtain ⟨a9, c9, rfl⟩ := row_slice hown'
      have hr2 : w2.heap[b]? = some (.cells #[.func (.func g) #[] cb, .slice ao N cp] 109 (0, 0)) := by
        have hrow := H1.out.row
        rw [HN.out] at hrow
        have hb0 : ¬ (Value.slice ao N cp).ownBlock = some b := by have := H1.out.ne; rw [HN.out] at this; exact this
        rw [hgr.block b (by simp; omega) (fun e => hb0 e.symm)]
        rw [show (w1.alloc (.cells #[.string t, .int .i64 n] 117 (0, 0))).heap[b]? = w1.heap[b]? from heap_alloc_old w1 _ hlt1]
        exact hrow
      have c3 := cell_of_heap hr2 1
      simp at c3
      have hz3 : w2.frozen? ⟨b, 1, none⟩ = false := free_of_heap hr2 1
      have hv' : (Value.slice a9 (N + 1) c9).ownBlock ≠ some b := fun e => by
        rcases hfr b e with f | f
        · have := H1.out.ne; rw [HN.out] at this; exact this f
        · simp at f; omega
      have hst := bag_storeS (v' := .slice a9 (N + 1) c9) hr2 (l := l.take i ++ (t, n) :: l.drop i) (by
        have e1 : (l.take i ++ (t, n) :: l.drop i).length = N + 1 := by simp [HN.out]; omega
        have e2 : flatS (l.take i ++ (t, n) :: l.drop i) = (flatS l).take (i * 2) ++ [.string t, .int .i64 n] ++ (flatS l).drop (i * 2) := by
          rw [flatS_append, ← flatS_take l i (by rw [HN.out]; exact hbi), ← flatS_drop l i (by rw [HN.out]; exact hbi), List.append_assoc]
          rfl
        rw [e1, e2]
        exact hown') hv'
      have kw2 : Keep (fun k => k = b ∨ (Value.slice ao N cp).ownBlock = some k) w w2 := (((K1.out.mono (fun _ _ f => f.elim)).alloc _).grown hgr (fun k _ e => .inr e))
      have HST := Lib.hid hst; have KW2 := Lib.hid (kw2.trans' (hst.2.mono (fun _ _ f => .inl f)))
      have HFR : Hid (∀ k, (Value.slice a9 (N + 1) c9).ownBlock = some k → (Value.slice ao N cp).ownBlock = some k ∨ w.heap.size ≤ k) := Lib.hid fun k hk => by
        rcases hfr k hk with f | f
        · exact .inl f
        · have := K1.out.size; simp at f; exact .inr (by omega)
      clear hown' hgr hfr hr2 hv' hst kw2
      go_wp2_with fail
      go_ret
      refine ⟨i, .slice a9 (N + 1) c9, HBS.out, by rw [HADD.out.1]; rfl, by rw [HADD.out.2]; exact HST.out.1, ?_, ?_⟩
      · rw [HN.out]; exact KW2.out
      · rw [HN.out]; exact HFR.out
    · have hmx : max n 0 = 0 := by omega
      rw [hmx, if_pos rfl] at HADD
      go_wp2_with fail
      go_ret
      exact ⟨i, _, HBS.out, by rw [HADD.out.1]; rfl, by rw [HADD.out.2]; exact H1.out, K1.out.mono (fun _ _ f => f.elim), fun k h => .inl h⟩
  · obtain ⟨hil, _⟩ := foundS_lt hfo
    have hiN : i < N := by rw [← HN.out]; exact hil
    have hgd : l.getD i (ByteArray.empty, 0) = l[i] := by rw [List.getD_eq_getElem?_getD, List.getElem?_eq_getElem hil]; rfl
    have hm := HB.out l[i] (List.getElem_mem hil)
    have hhad : hadS l cf i = l[i].2 := by unfold hadS; rw [if_pos hfo, hgd]
    obtain ⟨g0, hg0⟩ : ∃ g0, ao = some ⟨g0, 0, none⟩ := by
      rcases HOWN.out.2 with ⟨e, _⟩ | ⟨g0, _, _, e, _⟩
      · injection e with e1 e2 e3; omega
      · injection e with e1 e2 e3; exact ⟨g0, e1⟩
    subst hg0
    have dm := (flatS_get l i hil).2
    have d1 : w1.cell? ⟨g0, i * 2 + 1, none⟩ = some (.int .i64 l[i].2) := by
      have := HOWN.out.cells (g := g0) rfl (i * 2 + 1) _ dm
      rw [addr_at, Nat.zero_add] at this
      exact this
    have HSET := Lib.hid (fun x => flatS_set l i hil x)
    have HADD : Hid (nowS l cf i n = max (l[i].2 + n) 0 ∧ addS l cf i t n = if max (l[i].2 + n) 0 = 0 then l.take i ++ l.drop (i + 1) else l.set i (l[i].1, max (l[i].2 + n) 0)) := Lib.hid (by
      have e : nowS l cf i n = max (l[i].2 + n) 0 := by unfold nowS; rw [hhad]
      refine ⟨e, ?_⟩
      unfold addS
      rw [if_pos hfo, e, hgd])
    have hbg : b ≠ g0 := fun e => H1.out.ne (by rw [HN.out, e]; rfl)
    obtain ⟨m, hm2⟩ : ∃ m, l[i].2 = m := ⟨_, rfl⟩
    rw [hm2] at hm d1 HADD
    have hi3 : decide (N ≤ i) = false := by simp; omega
    have hi2 : (i : Int) < N := by omega
    clear hfo hhad hgd dm
    by_cases hpos : 0 < m + n
    · have hmx : max (m + n) 0 = m + n := by omega
      have hn0 : ¬ m + n = 0 := by omega
      have hne0 : ((m + n) == 0) = false := by simp [hn0]
      rw [hmx, if_neg hn0] at HADD
      have hfz : w1.frozen? ⟨g0, i * 2 + 1, none⟩ = false := by
        rcases HOWN.out.2 with ⟨e, _⟩ | ⟨g1, _, _, e, _, hg, _⟩
        · injection e with e1 e2 e3; omega
        · injection e with e1 e2 e3; injection e1 with e1; injection e1 with e1; subst e1
          exact free_of_heap hg _
      go_wp2_with fail
      go_ret
      obtain ⟨s1, s2⟩ := HOWN.out.stored (i * 2 + 1) (.int .i64 (m + n))
      have hkk : Keep (fun k => k = g0) w1 (w1.setCell ⟨g0, i * 2 + 1, none⟩ (.int .i64 (m + n))) := (Keep.refl (fun k => k = g0) w1).setCell (p := ⟨g0, i * 2 + 1, none⟩) (fun _ => rfl) _
      refine ⟨i, .slice (some ⟨g0, 0, none⟩) N cp, HBS.out, by rw [HADD.out.1]; rfl, ?_, ?_, fun k h => .inl ?_⟩
      · rw [HADD.out.2]
        refine ⟨?_, ?_, fun e => hbg (by injection e with e; exact e.symm)⟩
        · rw [hkk.block b hlt1 hbg]
          have := H1.out.row
          rw [HN.out] at this
          exact this
        · rw [HSET.out, List.length_set, HN.out]
          exact s1
      · exact (K1.out.mono (fun _ _ f => f.elim)).trans' (hkk.mono (fun k _ f => .inr (by rw [f]; rfl)))
      · rw [HN.out]; exact h
    · have hmx : max (m + n) 0 = 0 := by omega
      rw [hmx, if_pos rfl] at HADD
      obtain ⟨k, rfl⟩ : ∃ k, N = k + 1 := ⟨N - 1, by omega⟩
      have HDEL := Lib.hid (delS_any g0 k cp i (flatS l) w1 HOWN.out (flatS_one l) (by omega) (by omega))
      go_wp2_with fail
      refine HDEL.out.mono ?_
      rintro e w2 ⟨rfl, hown', hgr⟩
      have hr2 : w2.heap[b]? = some (.cells #[.func (.func g) #[] cb, .slice (some ⟨g0, 0, none⟩) (k + 1) cp] 109 (0, 0)) := by
        have hrow := H1.out.row
        rw [HN.out] at hrow
        rw [hgr.block b hlt1 (by simp; exact fun e => hbg e)]
        exact hrow
      have c3 := cell_of_heap hr2 1
      simp at c3
      have hz3 : w2.frozen? ⟨b, 1, none⟩ = false := free_of_heap hr2 1
      have hst := bag_storeS (v' := .slice (some ⟨g0, 0, none⟩) k cp) hr2 (l := l.take i ++ l.drop (i + 1)) (by
        have e1 : (l.take i ++ l.drop (i + 1)).length = k := by simp [HN.out]; omega
        have e2 : flatS (l.take i ++ l.drop (i + 1)) = (flatS l).take (i * 2) ++ (flatS l).drop ((i + 1) * 2) := by
          rw [flatS_append, ← flatS_take l i (by rw [HN.out]; omega), ← flatS_drop l (i + 1) (by rw [HN.out]; omega)]
        rw [e1, e2]
        exact hown') (fun e => hbg (by injection e with e; exact e.symm))
      have kw2 : Keep (fun j => j = b ∨ (Value.slice (some ⟨g0, 0, none⟩) (k + 1) cp).ownBlock = some j) w w2 := (K1.out.mono (fun _ _ f => f.elim)).grown hgr (fun j _ e => .inr e)
      have HST := Lib.hid hst; have KW2 := Lib.hid (kw2.trans' (hst.2.mono (fun _ _ f => .inl f)))
      clear hown' hgr hr2 hst kw2
      go_wp2_with fail
      go_ret
      refine ⟨i, _, HBS.out, by rw [HADD.out.1]; rfl, by rw [HADD.out.2]; exact HST.out.1, ?_, fun j h => .inl ?_⟩
      · rw [HN.out]; exact KW2.out
      · rw [HN.out]; exact h
end Go.Proofs.YtdbgplnjppaimaaGreat
