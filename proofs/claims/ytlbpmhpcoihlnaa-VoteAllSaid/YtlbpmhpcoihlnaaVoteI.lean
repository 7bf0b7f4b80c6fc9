/- A ballot of whole numbers: its voters, sorted. -/
import Derived.Test.YtlbpmhpcoihlnaaChecked
import Derived.Test.YtlbpmhpcoihlnaaMapB
import Derived.Test.YtlbpmhpcoihlnaaShelf
open Go Go.Proofs Go.RowKit Go.Maps Go.Sort Go.Shelf
namespace Go.Proofs.Ytlbpmhpcoihlnaa

theorem sortsA (m : Nat) : AnyZI.SortsIn Try.prog Try.sortedA_ren Fence.wide m :=
  ⟨fun blk off cap ss W hH hblk hsz => callsIn_wide.2 (AnyM.slices_Sort_int Try.sortA blk off cap ss W hH hblk hsz),
   fun p cap W => callsIn_wide.2 (AnyM.slices_Sort_int_none Try.sortA p cap W)⟩

theorem zb (w : World) : (zeroValue 4).run Try.prog w = .ok (.bool false) w := by kernel_rfl
theorem KI : KeyK Try.prog 3 4 (α := Int) (.int .i64) (.int .i64) (fun x => (Lit.int .i64 x).wf = true) := keyI Try.underlying3 Try.underlying4 zb
def ddup : List Int → List Int
  | [] => []
  | x :: l => if x ∈ l then ddup l else x :: ddup l
theorem mem_ddup {ks : List Int} {x : Int} : x ∈ ddup ks ↔ x ∈ ks := by
  induction ks with
  | nil => simp [ddup]
  | cons y l ih =>
    unfold ddup
    split
    · rw [ih, List.mem_cons]
      rename_i h
      constructor
      · exact .inr
      · rintro (rfl | h2)
        · exact h
        · exact h2
    · rw [List.mem_cons, List.mem_cons, ih]
theorem nodup_ddup (ks : List Int) : (ddup ks).Nodup := by
  induction ks with
  | nil => simp [ddup]
  | cons y l ih =>
    unfold ddup
    split
    · exact ih
    · rename_i h
      exact List.nodup_cons.2 ⟨fun e => h (mem_ddup.1 e), ih⟩
def sortD (ks : List Int) : List Int := (ddup ks).mergeSort leI
theorem mem_sortD {ks : List Int} {x : Int} : x ∈ sortD ks ↔ x ∈ ks := by
  rw [sortD, (List.mergeSort_perm _ _).mem_iff, mem_ddup]

structure BalI (w : World) (p by_ bn n : Nat) (ks : List Int) (yes : Int → Bool) (ns : List Int) : Prop where
  row : w.heap[p]? = some (.cells #[.map (some by_), .map (some bn)] 46 (0, 0))
  ym : MapB KI w by_ n ks yes
  nm : MapB KI w bn n ns (fun _ => true)
  ne : by_ ≠ bn ∧ p ≠ by_ ∧ p ≠ bn

theorem keysPerm {w : World} {b n : Nat} {D : DataW Unit} (h : w.ownsMap Try.prog 3 (plainElem Try.prog 4) b n D) {ks : List Int} (hm : ∀ x, Maps.has D (.int .i64 x) = true ↔ x ∈ ks) : (ddup ks).Perm (intKeys D) := by
  obtain ⟨es, rfl, hk⟩ := h.keysOf
  obtain ⟨es', e, hp⟩ := h.tidy KI.law
  injection e with e
  subst e
  refine perm_intKeys hp (fun q hq => ?_) (nodup_ddup ks) (fun x => by rw [mem_ddup]; exact (hm x).symm)
  obtain ⟨v, hv⟩ := hk q hq
  obtain ⟨x, _, e, _⟩ := keyOf_i64 Try.underlying3 hv
  exact ⟨x, e⟩

set_option maxHeartbeats 1000000 in
theorem voters_any (p by_ bn n : Nat) (ks : List Int) (yes : Int → Bool) (ns : List Int) (w : World) (h : BalI w p by_ bn n ks yes ns) (hn : n ≤ 10000) :
    Calls Try.prog 13 #[.pointer (some ⟨p, 0, none⟩)] w fun e w' => ∃ v, e = .returned v ∧ w'.ownsRow w.heap.size 3 1 v (sortD ks).length ((sortD ks).map (.int .i64)) ∧ (v = .slice none 0 0 ↔ sortD ks = []) ∧ Keep NoF w w' := by
  refine (callsIn_wide (n := 6)).1 ?_
  obtain ⟨D0, hown, hsz, hhas⟩ := h.ym.owns
  have hbl := hown.lt
  have hc := cell_of_heap h.row 0
  simp at hc
  have hmax : Maps.size D0 ≤ maxLen := by unfold maxLen; omega
  have hbytes : Maps.size D0 * 8 ≤ 140737488355328 := by omega
  have hperm := keysPerm hown hhas
  have hseq : SeqGives Fence.wide 2 Try.prog 31 #[.pointer (some ⟨w.heap.size, 0, none⟩)] encZ (fun ss => ss.Perm (intKeys D0)) (Maps.size D0) (w.alloc (.cells #[.map (some by_)] 44)) :=
    AnyZI.keys_gives (ρ := Try.keysA_ren) { Try.keysA with } Fence.wide _ trivial rfl (by omega) w.heap.size by_ n D0 _ (by simp) (by simp) (by
      obtain ⟨es, clock, hb, Ft, hs, hD⟩ := hown
      exact ⟨es, clock, (Below.heap_alloc _ _ by_ hbl).trans hb, Ft, hs, hD⟩)
  have cK : ∀ mb W, CallsIn Fence.wide 5 Try.prog 23 #[.map mb] W fun e w' => e = .returned (.func (.func 31) #[] #[.pointer (some ⟨W.heap.size, 0, none⟩)]) ∧ w' = W.alloc (.cells #[.map mb] 44) := fun mb W => AnyZI.keys_in Try.keysA Fence.wide 5 trivial rfl mb W
  have cS := AnyZI.sorted_in Try.sortedA Fence.wide 5 trivial trivial trivial trivial rfl (by omega) (sortsA _) (enters_of Try.func30 (by kernel_rfl) rfl) 31 #[.pointer (some ⟨w.heap.size, 0, none⟩)] trivial (enters_of Try.func31 (by kernel_rfl) rfl) _ _ hmax hbytes _ hseq
  change CallsIn _ _ Try.prog 22 _ _ _ at cS
  have hfK : Fence.wide.fn 23 := trivial
  have hfS : Fence.wide.fn 22 := trivial
  have HP := Lib.hid hperm
  clear hseq hown hhas hperm hmax hbytes hsz hbl h
  refine callsIn_of_wp Try.func13 rfl trivial ?_ rfl
  simp only [Try.ntmps13, List.size_toArray, List.length_cons, List.length_nil, Nat.reduceAdd, Nat.reduceSub, Array.replicate_succ, Array.replicate_zero, List.push_toArray, List.append_toArray, List.nil_append, List.cons_append]
  gi_wp2_with (first
    | (gi_at_call 23; refine (cK _ _).mono ?_; rintro e w' ⟨rfl, rfl⟩)
    | (gi_at_call 22; refine cS.mono ?_; rintro e w' ⟨v, ss, rfl, hS, hrow, hnil, hb⟩))
  go_ret
  have hs : ss.mergeSort (fun x y => decide (x ≤ y)) = sortD ks := mergeSort_of_perm_i (hS.trans HP.out.symm)
  have hl : ss.length = (sortD ks).length := by rw [← hs, List.length_mergeSort]
  rw [hs, hl] at hrow
  have hnil2 : v = .slice none 0 0 ↔ sortD ks = [] := by rw [hnil, ← List.length_eq_zero_iff, hl, List.length_eq_zero_iff]
  exact ⟨v, rfl, ownsRow_base_a hrow (by simp), hnil2, Keep.ofBelow (((Below.refl _ w).alloc (Nat.le_refl _) _).trans (hb.mono (by simp)))⟩
end Go.Proofs.Ytlbpmhpcoihlnaa
