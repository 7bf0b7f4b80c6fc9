/- A ballot of texts: its voters, sorted. -/
import Derived.Test.YtlbpmhpcoihlnaaChecked
import Derived.Test.YtlbpmhpcoihlnaaMapB
import Derived.Test.YtlbpmhpcoihlnaaShelf
open Go Go.Proofs Go.RowKit Go.Maps Go.Sort Go.Shelf
namespace Go.Proofs.Ytlbpmhpcoihlnaa

theorem sortsS (m : Nat) : AnyZ.SortsIn Try.prog Try.sortedS_ren Fence.wide m :=
  ⟨fun blk off cap ss W hH hblk hsz => callsIn_wide.2 (AnyM.slices_Sort_string Try.sortS blk off cap ss W hH hblk hsz),
   fun p cap W => callsIn_wide.2 (AnyM.slices_Sort_string_none Try.sortS p cap W)⟩

theorem zbS (w : World) : (zeroValue 4).run Try.prog w = .ok (.bool false) w := by kernel_rfl
theorem KIS : KeyK Try.prog 9 4 (α := List UInt8) encStr .string (fun x => x.length ≤ maxLen) := keyS Try.underlying9 Try.underlying4 zbS
def ddupS : List (List UInt8) → List (List UInt8)
  | [] => []
  | x :: l => if x ∈ l then ddupS l else x :: ddupS l
theorem mem_ddupS {ks : List (List UInt8)} {x : List UInt8} : x ∈ ddupS ks ↔ x ∈ ks := by
  induction ks with
  | nil => simp [ddupS]
  | cons y l ih =>
    unfold ddupS
    split
    · rw [ih, List.mem_cons]
      rename_i h
      constructor
      · exact .inr
      · rintro (rfl | h2)
        · exact h
        · exact h2
    · rw [List.mem_cons, List.mem_cons, ih]
theorem nodup_ddupS (ks : List (List UInt8)) : (ddupS ks).Nodup := by
  induction ks with
  | nil => simp [ddupS]
  | cons y l ih =>
    unfold ddupS
    split
    · exact ih
    · rename_i h
      exact List.nodup_cons.2 ⟨fun e => h (mem_ddupS.1 e), ih⟩
def sortDS (ks : List (List UInt8)) : List (List UInt8) := (ddupS ks).mergeSort leB
theorem mem_sortDS {ks : List (List UInt8)} {x : List UInt8} : x ∈ sortDS ks ↔ x ∈ ks := by
  rw [sortDS, (List.mergeSort_perm _ _).mem_iff, mem_ddupS]

structure BalIS (w : World) (p by_ bn n : Nat) (ks : List (List UInt8)) (yes : List UInt8 → Bool) (ns : List (List UInt8)) : Prop where
  row : w.heap[p]? = some (.cells #[.map (some by_), .map (some bn)] 56 (0, 0))
  ym : MapB KIS w by_ n ks yes
  nm : MapB KIS w bn n ns (fun _ => true)
  ne : by_ ≠ bn ∧ p ≠ by_ ∧ p ≠ bn

theorem keysPermS {w : World} {b n : Nat} {D : DataW Unit} (h : w.ownsMap Try.prog 9 (plainElem Try.prog 4) b n D) {ks : List (List UInt8)} (hm : ∀ x, Maps.has D (.string x) = true ↔ x ∈ ks) : (ddupS ks).Perm (strKeys D) := by
  obtain ⟨es, rfl, hk⟩ := h.keysOf
  obtain ⟨es', e, hp⟩ := h.tidy KIS.law
  injection e with e
  subst e
  refine perm_strKeys hp (fun q hq => ?_) (nodup_ddupS ks) (fun x => by rw [mem_ddupS]; exact (hm x).symm)
  obtain ⟨v, hv⟩ := hk q hq
  obtain ⟨x, _, e, _⟩ := keyOf_str Try.underlying9 hv
  exact ⟨x, e⟩

set_option maxHeartbeats 1000000 in
theorem voters_anyS (p by_ bn n : Nat) (ks : List (List UInt8)) (yes : List UInt8 → Bool) (ns : List (List UInt8)) (w : World) (h : BalIS w p by_ bn n ks yes ns) (hn : n ≤ 10000) :
    Calls Try.prog 19 #[.pointer (some ⟨p, 0, none⟩)] w fun e w' => ∃ v, e = .returned v ∧ w'.ownsRow w.heap.size 9 1 v (sortDS ks).length ((sortDS ks).map encStr) ∧ (v = .slice none 0 0 ↔ sortDS ks = []) ∧ Keep NoF w w' := by
  refine (callsIn_wide (n := 6)).1 ?_
  obtain ⟨D0, hown, hsz, hhas⟩ := h.ym.owns
  have hbl := hown.lt
  have hc := cell_of_heap h.row 0
  simp at hc
  have hmax : Maps.size D0 ≤ maxLen := by unfold maxLen; omega
  have hbytes : Maps.size D0 * 16 ≤ 140737488355328 := by omega
  have hperm := keysPermS hown hhas
  have hseq : SeqGives Fence.wide 2 Try.prog 35 #[.pointer (some ⟨w.heap.size, 0, none⟩)] encStr (fun ss => ss.Perm (strKeys D0)) (Maps.size D0) (w.alloc (.cells #[.map (some by_)] 54)) :=
    AnyZ.keys_gives (ρ := Try.keysS_ren) { Try.keysS with } Fence.wide _ trivial rfl (by omega) w.heap.size by_ n D0 _ (by simp) (by simp) (by
      obtain ⟨es, clock, hb, Ft, hs, hD⟩ := hown
      exact ⟨es, clock, (Below.heap_alloc _ _ by_ hbl).trans hb, Ft, hs, hD⟩)
  have cK : ∀ mb W, CallsIn Fence.wide 5 Try.prog 27 #[.map mb] W fun e w' => e = .returned (.func (.func 35) #[] #[.pointer (some ⟨W.heap.size, 0, none⟩)]) ∧ w' = W.alloc (.cells #[.map mb] 54) := fun mb W => AnyZ.keys_in Try.keysS Fence.wide 5 trivial rfl mb W
  have cS := AnyZ.sorted_in Try.sortedS Fence.wide 5 trivial trivial trivial trivial rfl (by omega) (sortsS _) (enters_of Try.func34 (by kernel_rfl) rfl) 35 #[.pointer (some ⟨w.heap.size, 0, none⟩)] trivial (enters_of Try.func35 (by kernel_rfl) rfl) _ _ hmax hbytes _ hseq
  change CallsIn _ _ Try.prog 26 _ _ _ at cS
  have hfK : Fence.wide.fn 27 := trivial
  have hfS : Fence.wide.fn 26 := trivial
  have HP := Lib.hid hperm
  clear hseq hown hhas hperm hmax hbytes hsz hbl h
  refine callsIn_of_wp Try.func19 rfl trivial ?_ rfl
  simp only [Try.ntmps19, List.size_toArray, List.length_cons, List.length_nil, Nat.reduceAdd, Nat.reduceSub, Array.replicate_succ, Array.replicate_zero, List.push_toArray, List.append_toArray, List.nil_append, List.cons_append]
  gi_wp2_with (first
    | (gi_at_call 27; refine (cK _ _).mono ?_; rintro e w' ⟨rfl, rfl⟩)
    | (gi_at_call 26; refine cS.mono ?_; rintro e w' ⟨v, ss, rfl, hS, hrow, hnil, hb⟩))
  go_ret
  have hs : ss.mergeSort (fun x y => decide (x ≤ y)) = sortDS ks := mergeSort_of_perm (hS.trans HP.out.symm)
  have hl : ss.length = (sortDS ks).length := by rw [← hs, List.length_mergeSort]
  rw [hs, hl] at hrow
  have hnil2 : v = .slice none 0 0 ↔ sortDS ks = [] := by rw [hnil, ← List.length_eq_zero_iff, hl, List.length_eq_zero_iff]
  exact ⟨v, rfl, ownsRow_base_a hrow (by simp), hnil2, Keep.ofBelow (((Below.refl _ w).alloc (Nat.le_refl _) _).trans (hb.mono (by simp)))⟩
end Go.Proofs.Ytlbpmhpcoihlnaa
