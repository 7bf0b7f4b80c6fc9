/- A timer of long whole numbers: who is on it, for how many ticks silent; its contracts. -/
import Derived.Test.YtdbgplnjppaimaaGreatChecked
import Derived.Test.YtdbgplnjppaimaaGreatMapN
import Derived.Test.YtdbgplnjppaimaaGreatShelf
import Derived.BigQuiet
open Go Go.Proofs Go.RowKit Go.Maps Go.Sort Go.Shelf
namespace Go.Proofs.YtdbgplnjppaimaaGreat

theorem sortsL (m : Nat) : AnyZI.SortsIn Tryz.prog Tryz.sortedL_ren Fence.wide m :=
  ⟨fun blk off cap ss W hH hblk hsz => callsIn_wide.2 (AnyM.slices_Sort_int Tryz.sortL blk off cap ss W hH hblk hsz),
   fun p cap W => callsIn_wide.2 (AnyM.slices_Sort_int_none Tryz.sortL p cap W)⟩

theorem znL (w : World) : (zeroValue 3).run Tryz.prog w = .ok (.int .i64 0) w := by kernel_rfl
theorem KNL : KeyN Tryz.prog 2 3 (α := Int) (.int .i64) (.int .i64) (fun x => (Lit.int .i64 x).wf = true) := keyNI Tryz.underlying2 Tryz.underlying3 znL
def srtL (ks : List Int) : List Int := (once ks).mergeSort leI
theorem mem_srtL {ks : List Int} {x : Int} : x ∈ srtL ks ↔ x ∈ ks := by
  rw [srtL, (List.mergeSort_perm _ _).mem_iff, mem_once]
theorem nodup_srtL (ks : List Int) : (srtL ks).Nodup := ((List.mergeSort_perm (once ks) leI).nodup_iff).2 (nodup_once ks)

structure TimL (w : World) (p b n : Nat) (most : Int) (ks : List Int) (f : Int → Int) : Prop where
  row : w.heap[p]? = some (.cells #[.int .i64 most, .map (some b)] 80 (0, 0))
  m : MapN KNL w b n ks f
  ne : p ≠ b
  rng : ∀ x ∈ ks, 0 ≤ f x ∧ f x ≤ n
theorem TimL.keep {F : Nat → Prop} {w w' : World} {p b n : Nat} {most : Int} {ks : List Int} {f : Int → Int} (h : TimL w p b n most ks f) (hk : Keep F w w') (h1 : ¬ F p) (h2 : ¬ F b) : TimL w' p b n most ks f :=
  ⟨by rw [hk.block p (lt_of_heap h.row) h1]; exact h.row, h.m.keep hk h2, h.ne, h.rng⟩
theorem TimL.mono {w : World} {p b n n' : Nat} {most : Int} {ks : List Int} {f : Int → Int} (h : TimL w p b n most ks f) (hn : n ≤ n') : TimL w p b n' most ks f :=
  ⟨h.row, h.m.mono hn, h.ne, fun x hx => by have := h.rng x hx; omega⟩
theorem TimL.congr {w : World} {p b n : Nat} {most : Int} {ks ks' : List Int} {f f' : Int → Int} (h : TimL w p b n most ks f) (hk : ∀ x, x ∈ ks' ↔ x ∈ ks) (hf : ∀ x ∈ ks, f' x = f x) : TimL w p b n most ks' f' :=
  ⟨h.row, h.m.congr hk hf, h.ne, fun x hx => by rw [hf x ((hk x).1 hx)]; exact h.rng x ((hk x).1 hx)⟩
theorem TimL.lt {w : World} {p b n : Nat} {most : Int} {ks : List Int} {f : Int → Int} (h : TimL w p b n most ks f) : p < w.heap.size ∧ b < w.heap.size := ⟨lt_of_heap h.row, h.m.lt⟩

def ageL (ks : List Int) (f : Int → Int) (x : Int) : Int := if x ∈ ks then f x else -1
theorem ageL_any (p b n : Nat) (most : Int) (ks : List Int) (f : Int → Int) (x : Int) (hx : (Lit.int .i64 x).wf = true) (w : World) (h : TimL w p b n most ks f) :
    Calls Tryz.prog 61 #[.pointer (some ⟨p, 0, none⟩), .int .i64 x] w fun e w' => e = .returned (.int .i64 (ageL ks f x)) ∧ w' = w := by
  have c1 := cell_of_heap h.row 1
  simp at c1
  have l1 : (Instr.lookup 78 (.map (some b)) (.int .i64 x) true).run Tryz.prog w = _ := h.m.look_ok Tryz.underlying78 hx
  unfold ageL
  clear h
  by_cases hm : x ∈ ks
  · simp only [hm, if_true, decide_true] at l1
    rw [if_pos hm]
    generalize f x = a at l1 ⊢
    clear hm hx
    skip
    go_enter Tryz.func61, Tryz.ntmps61
    go_wp2_with fail
    go_ret
    exact ⟨rfl, rfl⟩
  · simp only [hm, if_false, decide_false] at l1
    rw [if_neg hm]
    clear hm hx
    skip
    go_enter Tryz.func61, Tryz.ntmps61
    go_wp2_with fail
    go_ret
    exact ⟨rfl, rfl⟩
theorem hasL_any (p b n : Nat) (most : Int) (ks : List Int) (f : Int → Int) (x : Int) (hx : (Lit.int .i64 x).wf = true) (w : World) (h : TimL w p b n most ks f) :
    Calls Tryz.prog 51 #[.pointer (some ⟨p, 0, none⟩), .int .i64 x] w fun e w' => e = .returned (.bool (decide (x ∈ ks))) ∧ w' = w := by
  have ha := ageL_any p b n most ks f x hx w h
  by_cases hm : x ∈ ks
  · have h1 := (h.rng x hm).1
    have e0 : ageL ks f x = f x := if_pos hm
    rw [e0] at ha
    rw [decide_eq_true hm]
    generalize f x = a at ha h1
    have HA := Lib.hid ha
    clear ha h hm hx e0
    go_enter Tryz.func51, Tryz.ntmps51
    go_wp2_with fail
    refine HA.out.mono ?_
    rintro e w' ⟨rfl, rfl⟩
    go_wp2_with fail
    go_ret
    exact ⟨rfl, rfl⟩
  · have e0 : ageL ks f x = -1 := if_neg hm
    rw [e0] at ha
    rw [decide_eq_false hm]
    have HA := Lib.hid ha
    clear ha h hm hx e0
    go_enter Tryz.func51, Tryz.ntmps51
    go_wp2_with fail
    refine HA.out.mono ?_
    rintro e w' ⟨rfl, rfl⟩
    go_wp2_with fail
    go_ret
    exact ⟨rfl, rfl⟩
theorem heardL_any (p b n : Nat) (most : Int) (ks : List Int) (f : Int → Int) (x : Int) (hx : (Lit.int .i64 x).wf = true) (w : World) (h : TimL w p b n most ks f) (hn : n ≤ 1000000) :
    Calls Tryz.prog 42 #[.pointer (some ⟨p, 0, none⟩), .int .i64 x] w fun e w' => e = .returned (.bool (!decide (x ∈ ks))) ∧ TimL w' p b (n + 1) most (x :: ks) (fun z => if z = x then 0 else f z) ∧ Keep (fun k => k = b) w w' := by
  have c1 := cell_of_heap h.row 1
  simp at c1
  have ha := hasL_any p b n most ks f x hx w h
  have H := Lib.hid h; have HX := Lib.hid hx
  generalize hd : decide (x ∈ ks) = d at ha
  have HA := Lib.hid ha
  clear ha h hx hd
  go_enter Tryz.func42, Tryz.ntmps42
  go_wp2_with fail
  refine HA.out.mono ?_
  rintro e w' ⟨rfl, rfl⟩
  go_wp2_with (at_mapUpdate; refine H.out.m.wpPut Tryz.underlying78 (by unfold maxLen; omega) HX.out 0 (by decide) rfl rfl rfl rfl rfl ?_; intro w2 hM hg)
  have hp : p ≠ b := H.out.ne
  have hT : TimL w2 p b (n + 1) most (x :: ks) (fun z => if z = x then 0 else f z) := ⟨by rw [hg.block p (lt_of_heap H.out.row) (by simpa using hp)]; exact H.out.row, hM, hp, fun z hz => by
    show 0 ≤ (if z = x then (0 : Int) else f z) ∧ (if z = x then (0 : Int) else f z) ≤ _
    by_cases e : z = x
    · rw [if_pos e]; omega
    · rw [if_neg e]
      rcases List.mem_cons.1 hz with e2 | hz
      · exact absurd e2 e
      · have := H.out.rng z hz; omega⟩
  have HT := Lib.hid hT
  have HK := Lib.hid ((Keep.refl (fun k => k = b) w').grown hg (fun k _ e => (Option.some.inj e).symm))
  clear hM hg hT hp
  go_wp2_with fail
  go_ret
  exact ⟨rfl, HT.out, HK.out⟩
theorem goneL_any (p b n : Nat) (most : Int) (ks : List Int) (f : Int → Int) (x : Int) (hx : (Lit.int .i64 x).wf = true) (w : World) (h : TimL w p b n most ks f) :
    Calls Tryz.prog 44 #[.pointer (some ⟨p, 0, none⟩), .int .i64 x] w fun e w' => e = .returned (.bool (decide (x ∈ ks))) ∧ TimL w' p b n most (ks.filter fun z => decide (z ≠ x)) f ∧ Keep (fun k => k = b) w w' := by
  have c1 := cell_of_heap h.row 1
  simp at c1
  have ha := hasL_any p b n most ks f x hx w h
  have H := Lib.hid h; have HX := Lib.hid hx
  by_cases hm : x ∈ ks
  · rw [decide_eq_true hm] at ha ⊢
    have HA := Lib.hid ha
    clear ha h hx hm
    go_enter Tryz.func44, Tryz.ntmps44
    go_wp2_with fail
    refine HA.out.mono ?_
    rintro e w' ⟨rfl, rfl⟩
    go_wp2_with (at_delete; refine H.out.m.wpDel Tryz.underlying78 HX.out rfl rfl rfl rfl ?_; intro w2 hM hg)
    have hp : p ≠ b := H.out.ne
    have hT : TimL w2 p b n most (ks.filter fun z => decide (z ≠ x)) f := ⟨by rw [hg.block p (lt_of_heap H.out.row) (by simpa using hp)]; exact H.out.row, hM, hp, fun z hz => H.out.rng z (List.mem_filter.1 hz).1⟩
    have HT := Lib.hid hT
    have HK := Lib.hid ((Keep.refl (fun k => k = b) w').grown hg (fun k _ e => (Option.some.inj e).symm))
    clear hM hg hT hp
    go_wp2_with fail
    go_ret
    exact ⟨rfl, HT.out, HK.out⟩
  · have HT : Hid (TimL w p b n most (ks.filter fun z => decide (z ≠ x)) f) := Lib.hid (h.congr (fun z => by
      rw [List.mem_filter]
      constructor
      · exact fun e => e.1
      · intro hz; exact ⟨hz, by simp only [decide_eq_true_eq]; intro e; exact hm (e ▸ hz)⟩) (fun _ _ => rfl))
    rw [decide_eq_false hm] at ha ⊢
    have HA := Lib.hid ha
    clear ha h hx hm
    go_enter Tryz.func44, Tryz.ntmps44
    go_wp2_with fail
    refine HA.out.mono ?_
    rintro e w' ⟨rfl, rfl⟩
    go_wp2_with fail
    go_ret
    exact ⟨rfl, HT.out, Keep.refl _ _⟩

theorem keysPermL {w : World} {b n : Nat} {D : DataW Unit} (h : w.ownsMap Tryz.prog 2 (plainElem Tryz.prog 3) b n D) {ks : List Int} (hm : ∀ x, Maps.has D (.int .i64 x) = true ↔ x ∈ ks) : (once ks).Perm (intKeys D) := by
  obtain ⟨es, rfl, hk⟩ := h.keysOf
  obtain ⟨es', e, hp⟩ := h.tidy KNL.law
  injection e with e
  subst e
  refine perm_intKeys hp (fun q hq => ?_) (nodup_once ks) (fun x => by rw [mem_once]; exact (hm x).symm)
  obtain ⟨v, hv⟩ := hk q hq
  obtain ⟨x, _, e, _⟩ := keyOf_i64 Tryz.underlying2 hv
  exact ⟨x, e⟩

set_option maxHeartbeats 1000000 in
theorem allL_any (p b n : Nat) (most : Int) (ks : List Int) (f : Int → Int) (w : World) (h : TimL w p b n most ks f) (hn : n ≤ 1000000) :
    Calls Tryz.prog 47 #[.pointer (some ⟨p, 0, none⟩)] w fun e w' => ∃ v, e = .returned v ∧ w'.ownsRow w.heap.size 2 1 v (srtL ks).length ((srtL ks).map (.int .i64)) ∧ (v = .slice none 0 0 ↔ srtL ks = []) ∧ Keep NoF w w' := by
  refine (callsIn_wide (n := 6)).1 ?_
  obtain ⟨D0, hown, hsz, hhas⟩ := h.m.owns
  have hbl := hown.lt
  have hc := cell_of_heap h.row 1
  simp at hc
  have hmax : Maps.size D0 ≤ maxLen := by unfold maxLen; omega
  have hbytes : Maps.size D0 * 8 ≤ 140737488355328 := by omega
  have hperm := keysPermL hown hhas
  have hseq : SeqGives Fence.wide 2 Tryz.prog 74 #[.pointer (some ⟨w.heap.size, 0, none⟩)] encZ (fun ss => ss.Perm (intKeys D0)) (Maps.size D0) (w.alloc (.cells #[.map (some b)] 78)) :=
    AnyZI.keys_gives (ρ := Tryz.keysL_ren) { Tryz.keysL with } Fence.wide _ trivial rfl (by omega) w.heap.size b n D0 _ (by simp) (by simp) (by
      obtain ⟨es, clock, hb, Ft, hs, hD⟩ := hown
      exact ⟨es, clock, (Below.heap_alloc _ _ b hbl).trans hb, Ft, hs, hD⟩)
  have cK : ∀ mb W, CallsIn Fence.wide 5 Tryz.prog 53 #[.map mb] W fun e w' => e = .returned (.func (.func 74) #[] #[.pointer (some ⟨W.heap.size, 0, none⟩)]) ∧ w' = W.alloc (.cells #[.map mb] 78) := fun mb W => AnyZI.keys_in Tryz.keysL Fence.wide 5 trivial rfl mb W
  have cS := AnyZI.sorted_in Tryz.sortedL Fence.wide 5 trivial trivial trivial trivial rfl (by omega) (sortsL _) (enters_of Tryz.func73 (by kernel_rfl) rfl) 74 #[.pointer (some ⟨w.heap.size, 0, none⟩)] trivial (enters_of Tryz.func74 (by kernel_rfl) rfl) _ _ hmax hbytes _ hseq
  change CallsIn _ _ Tryz.prog 52 _ _ _ at cS
  have hfK : Fence.wide.fn 53 := trivial
  have hfS : Fence.wide.fn 52 := trivial
  have HP := Lib.hid hperm
  clear hseq hown hhas hperm hmax hbytes hsz hbl h
  refine callsIn_of_wp Tryz.func47 rfl trivial ?_ rfl
  simp only [Tryz.ntmps47, List.size_toArray, List.length_cons, List.length_nil, Nat.reduceAdd, Nat.reduceSub, Array.replicate_succ, Array.replicate_zero, List.push_toArray, List.append_toArray, List.nil_append, List.cons_append]
  gi_wp2_with (first
    | (gi_at_call 53; refine (cK _ _).mono ?_; rintro e w' ⟨rfl, rfl⟩)
    | (gi_at_call 52; refine cS.mono ?_; rintro e w' ⟨v, ss, rfl, hS, hrow, hnil, hb⟩))
  go_ret
  have hs : ss.mergeSort (fun x y => decide (x ≤ y)) = srtL ks := mergeSort_of_perm_i (hS.trans HP.out.symm)
  have hl : ss.length = (srtL ks).length := by rw [← hs, List.length_mergeSort]
  rw [hs, hl] at hrow
  have hnil2 : v = .slice none 0 0 ↔ srtL ks = [] := by rw [hnil, ← List.length_eq_zero_iff, hl, List.length_eq_zero_iff]
  exact ⟨v, rfl, ownsRow_base_a hrow (by simp), hnil2, Keep.ofBelow (((Below.refl _ w).alloc (Nat.le_refl _) _).trans (hb.mono (by simp)))⟩
end Go.Proofs.YtdbgplnjppaimaaGreat
