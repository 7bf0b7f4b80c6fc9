/- A timer of texts: who is on it, for how many ticks silent; its contracts. -/
import Derived.Test.YtidpfkehmokdfaaChecked
import Derived.Test.YtidpfkehmokdfaaMapN
import Derived.Test.YtidpfkehmokdfaaShelf
import Derived.BigQuiet
open Go Go.Proofs Go.RowKit Go.Maps Go.Sort Go.Shelf
namespace Go.Proofs.Ytidpfkehmokdfaa

theorem sortsS (m : Nat) : AnyZ.SortsIn Try.prog Try.sortedS_ren Fence.wide m :=
  ⟨fun blk off cap ss W hH hblk hsz => callsIn_wide.2 (AnyM.slices_Sort_string Try.sortS blk off cap ss W hH hblk hsz),
   fun p cap W => callsIn_wide.2 (AnyM.slices_Sort_string_none Try.sortS p cap W)⟩

theorem znS (w : World) : (zeroValue 3).run Try.prog w = .ok (.int .i64 0) w := by kernel_rfl
theorem KNS : KeyN Try.prog 9 3 (α := List UInt8) encStr .string (fun x => x.length ≤ maxLen) := keyNS Try.underlying9 Try.underlying3 znS
def srtS (ks : List (List UInt8)) : List (List UInt8) := (once ks).mergeSort leB
theorem mem_srtS {ks : List (List UInt8)} {x : List UInt8} : x ∈ srtS ks ↔ x ∈ ks := by
  rw [srtS, (List.mergeSort_perm _ _).mem_iff, mem_once]
theorem nodup_srtS (ks : List (List UInt8)) : (srtS ks).Nodup := ((List.mergeSort_perm (once ks) leB).nodup_iff).2 (nodup_once ks)

structure TimS (w : World) (p b n : Nat) (most : Int) (ks : List (List UInt8)) (f : List UInt8 → Int) : Prop where
  row : w.heap[p]? = some (.cells #[.int .i64 most, .map (some b)] 81 (0, 0))
  m : MapN KNS w b n ks f
  ne : p ≠ b
  rng : ∀ x ∈ ks, 0 ≤ f x ∧ f x ≤ n
theorem TimS.keep {F : Nat → Prop} {w w' : World} {p b n : Nat} {most : Int} {ks : List (List UInt8)} {f : List UInt8 → Int} (h : TimS w p b n most ks f) (hk : Keep F w w') (h1 : ¬ F p) (h2 : ¬ F b) : TimS w' p b n most ks f :=
  ⟨by rw [hk.block p (lt_of_heap h.row) h1]; exact h.row, h.m.keep hk h2, h.ne, h.rng⟩
theorem TimS.mono {w : World} {p b n n' : Nat} {most : Int} {ks : List (List UInt8)} {f : List UInt8 → Int} (h : TimS w p b n most ks f) (hn : n ≤ n') : TimS w p b n' most ks f :=
  ⟨h.row, h.m.mono hn, h.ne, fun x hx => by have := h.rng x hx; omega⟩
theorem TimS.congr {w : World} {p b n : Nat} {most : Int} {ks ks' : List (List UInt8)} {f f' : List UInt8 → Int} (h : TimS w p b n most ks f) (hk : ∀ x, x ∈ ks' ↔ x ∈ ks) (hf : ∀ x ∈ ks, f' x = f x) : TimS w p b n most ks' f' :=
  ⟨h.row, h.m.congr hk hf, h.ne, fun x hx => by rw [hf x ((hk x).1 hx)]; exact h.rng x ((hk x).1 hx)⟩
theorem TimS.lt {w : World} {p b n : Nat} {most : Int} {ks : List (List UInt8)} {f : List UInt8 → Int} (h : TimS w p b n most ks f) : p < w.heap.size ∧ b < w.heap.size := ⟨lt_of_heap h.row, h.m.lt⟩

def ageS (ks : List (List UInt8)) (f : List UInt8 → Int) (x : List UInt8) : Int := if x ∈ ks then f x else -1
theorem ageS_any (p b n : Nat) (most : Int) (ks : List (List UInt8)) (f : List UInt8 → Int) (x : List UInt8) (hx : x.length ≤ maxLen) (w : World) (h : TimS w p b n most ks f) :
    Calls Try.prog 29 #[.pointer (some ⟨p, 0, none⟩), encStr x] w fun e w' => e = .returned (.int .i64 (ageS ks f x)) ∧ w' = w := by
  have c1 := cell_of_heap h.row 1
  simp at c1
  have l1 : (Instr.lookup 79 (.map (some b)) (encStr x) true).run Try.prog w = _ := h.m.look_ok Try.underlying79 hx
  unfold ageS
  clear h
  by_cases hm : x ∈ ks
  · simp only [hm, if_true, decide_true] at l1
    rw [if_pos hm]
    generalize f x = a at l1 ⊢
    clear hm hx
    skip
    go_enter Try.func29, Try.ntmps29
    go_wp2_with fail
    go_ret
    exact ⟨rfl, rfl⟩
  · simp only [hm, if_false, decide_false] at l1
    rw [if_neg hm]
    clear hm hx
    skip
    go_enter Try.func29, Try.ntmps29
    go_wp2_with fail
    go_ret
    exact ⟨rfl, rfl⟩
theorem hasS_any (p b n : Nat) (most : Int) (ks : List (List UInt8)) (f : List UInt8 → Int) (x : List UInt8) (hx : x.length ≤ maxLen) (w : World) (h : TimS w p b n most ks f) :
    Calls Try.prog 53 #[.pointer (some ⟨p, 0, none⟩), encStr x] w fun e w' => e = .returned (.bool (decide (x ∈ ks))) ∧ w' = w := by
  have ha := ageS_any p b n most ks f x hx w h
  by_cases hm : x ∈ ks
  · have h1 := (h.rng x hm).1
    have e0 : ageS ks f x = f x := if_pos hm
    rw [e0] at ha
    rw [decide_eq_true hm]
    generalize f x = a at ha h1
    have HA := Lib.hid ha
    clear ha h hm hx e0
    go_enter Try.func53, Try.ntmps53
    go_wp2_with fail
    refine HA.out.mono ?_
    rintro e w' ⟨rfl, rfl⟩
    go_wp2_with fail
    go_ret
    exact ⟨rfl, rfl⟩
  · have e0 : ageS ks f x = -1 := if_neg hm
    rw [e0] at ha
    rw [decide_eq_false hm]
    have HA := Lib.hid ha
    clear ha h hm hx e0
    go_enter Try.func53, Try.ntmps53
    go_wp2_with fail
    refine HA.out.mono ?_
    rintro e w' ⟨rfl, rfl⟩
    go_wp2_with fail
    go_ret
    exact ⟨rfl, rfl⟩
theorem heardS_any (p b n : Nat) (most : Int) (ks : List (List UInt8)) (f : List UInt8 → Int) (x : List UInt8) (hx : x.length ≤ maxLen) (w : World) (h : TimS w p b n most ks f) (hn : n ≤ 1000000) :
    Calls Try.prog 27 #[.pointer (some ⟨p, 0, none⟩), encStr x] w fun e w' => e = .returned (.bool (!decide (x ∈ ks))) ∧ TimS w' p b (n + 1) most (x :: ks) (fun z => if z = x then 0 else f z) ∧ Keep (fun k => k = b) w w' := by
  have c1 := cell_of_heap h.row 1
  simp at c1
  have ha := hasS_any p b n most ks f x hx w h
  have H := Lib.hid h; have HX := Lib.hid hx
  generalize hd : decide (x ∈ ks) = d at ha
  have HA := Lib.hid ha
  clear ha h hx hd
  go_enter Try.func27, Try.ntmps27
  go_wp2_with fail
  refine HA.out.mono ?_
  rintro e w' ⟨rfl, rfl⟩
  go_wp2_with (at_mapUpdate; refine H.out.m.wpPut Try.underlying79 (by unfold maxLen; omega) HX.out 0 (by decide) rfl rfl rfl rfl rfl ?_; intro w2 hM hg)
  have hp : p ≠ b := H.out.ne
  have hT : TimS w2 p b (n + 1) most (x :: ks) (fun z => if z = x then 0 else f z) := ⟨by rw [hg.block p (lt_of_heap H.out.row) (by simpa using hp)]; exact H.out.row, hM, hp, fun z hz => by
    show 0 ≤ (if z = x then (0 : Int) else f z) ∧ (if z = x then (0 : Int) else f z) ≤ _
    by_cases e : z = x
    · rw [if_pos e]; omega
    · rw [if_neg e]
      rcases List.mem_cons.1 hz with e2 | hz
      · exact absurd e2 e
      · have := H.out.rng z hz; omega⟩
  have HT := Lib.hid hT
  have HK := Lib.hid ((Keep.refl (fun k => k = b) w').grown hg (fun k _ e => by injection e with e; exact e.symm))
  clear hM hg hT hp
  go_wp2_with fail
  go_ret
  exact ⟨rfl, HT.out, HK.out⟩
theorem keysPermS {w : World} {b n : Nat} {D : DataW Unit} (h : w.ownsMap Try.prog 9 (plainElem Try.prog 3) b n D) {ks : List (List UInt8)} (hm : ∀ x, Maps.has D (.string x) = true ↔ x ∈ ks) : (once ks).Perm (strKeys D) := by
  obtain ⟨es, rfl, hk⟩ := h.keysOf
  obtain ⟨es', e, hp⟩ := h.tidy KNS.law
  injection e with e
  subst e
  refine perm_strKeys hp (fun q hq => ?_) (nodup_once ks) (fun x => by rw [mem_once]; exact (hm x).symm)
  obtain ⟨v, hv⟩ := hk q hq
  obtain ⟨x, _, e, _⟩ := keyOf_str Try.underlying9 hv
  exact ⟨x, e⟩

set_option maxHeartbeats 1000000 in
theorem allS_any (p b n : Nat) (most : Int) (ks : List (List UInt8)) (f : List UInt8 → Int) (w : World) (h : TimS w p b n most ks f) (hn : n ≤ 1000000) :
    Calls Try.prog 54 #[.pointer (some ⟨p, 0, none⟩)] w fun e w' => ∃ v, e = .returned v ∧ w'.ownsRow w.heap.size 9 1 v (srtS ks).length ((srtS ks).map encStr) ∧ (v = .slice none 0 0 ↔ srtS ks = []) ∧ Keep NoF w w' := by
  refine (callsIn_wide (n := 6)).1 ?_
  obtain ⟨D0, hown, hsz, hhas⟩ := h.m.owns
  have hbl := hown.lt
  have hc := cell_of_heap h.row 1
  simp at hc
  have hmax : Maps.size D0 ≤ maxLen := by unfold maxLen; omega
  have hbytes : Maps.size D0 * 16 ≤ 140737488355328 := by omega
  have hperm := keysPermS hown hhas
  have hseq : SeqGives Fence.wide 2 Try.prog 82 #[.pointer (some ⟨w.heap.size, 0, none⟩)] encStr (fun ss => ss.Perm (strKeys D0)) (Maps.size D0) (w.alloc (.cells #[.map (some b)] 79)) :=
    AnyZ.keys_gives (ρ := Try.keysS_ren) { Try.keysS with } Fence.wide _ trivial rfl (by omega) w.heap.size b n D0 _ (by simp) (by simp) (by
      obtain ⟨es, clock, hb, Ft, hs, hD⟩ := hown
      exact ⟨es, clock, (Below.heap_alloc _ _ b hbl).trans hb, Ft, hs, hD⟩)
  have cK : ∀ mb W, CallsIn Fence.wide 5 Try.prog 69 #[.map mb] W fun e w' => e = .returned (.func (.func 82) #[] #[.pointer (some ⟨W.heap.size, 0, none⟩)]) ∧ w' = W.alloc (.cells #[.map mb] 79) := fun mb W => AnyZ.keys_in Try.keysS Fence.wide 5 trivial rfl mb W
  have cS := AnyZ.sorted_in Try.sortedS Fence.wide 5 trivial trivial trivial trivial rfl (by omega) (sortsS _) (enters_of Try.func81 (by kernel_rfl) rfl) 82 #[.pointer (some ⟨w.heap.size, 0, none⟩)] trivial (enters_of Try.func82 (by kernel_rfl) rfl) _ _ hmax hbytes _ hseq
  change CallsIn _ _ Try.prog 68 _ _ _ at cS
  have hfK : Fence.wide.fn 69 := trivial
  have hfS : Fence.wide.fn 68 := trivial
  have HP := Lib.hid hperm
  clear hseq hown hhas hperm hmax hbytes hsz hbl h
  refine callsIn_of_wp Try.func54 rfl trivial ?_ rfl
  simp only [Try.ntmps54, List.size_toArray, List.length_cons, List.length_nil, Nat.reduceAdd, Nat.reduceSub, Array.replicate_succ, Array.replicate_zero, List.push_toArray, List.append_toArray, List.nil_append, List.cons_append]
  gi_wp2_with (first
    | (gi_at_call 69; refine (cK _ _).mono ?_; rintro e w' ⟨rfl, rfl⟩)
    | (gi_at_call 68; refine cS.mono ?_; rintro e w' ⟨v, ss, rfl, hS, hrow, hnil, hb⟩))
  go_ret
  have hs : ss.mergeSort (fun x y => decide (x ≤ y)) = srtS ks := mergeSort_of_perm (hS.trans HP.out.symm)
  have hl : ss.length = (srtS ks).length := by rw [← hs, List.length_mergeSort]
  rw [hs, hl] at hrow
  have hnil2 : v = .slice none 0 0 ↔ srtS ks = [] := by rw [hnil, ← List.length_eq_zero_iff, hl, List.length_eq_zero_iff]
  exact ⟨v, rfl, ownsRow_base_a hrow (by simp), hnil2, Keep.ofBelow (((Below.refl _ w).alloc (Nat.le_refl _) _).trans (hb.mono (by simp)))⟩
end Go.Proofs.Ytidpfkehmokdfaa
