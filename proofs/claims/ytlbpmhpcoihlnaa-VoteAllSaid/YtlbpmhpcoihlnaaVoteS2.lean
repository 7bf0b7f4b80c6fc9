/- A ballot of texts: who is missing. -/
import Derived.Test.YtlbpmhpcoihlnaaVoteS
import Derived.Shelf.SlicesE.DeleteFunc
import Derived.Ground.SlgfProg
open Go Go.Proofs Go.RowKit Go.Maps Go.Sort Go.Shelf
namespace Go.Proofs.Ytlbpmhpcoihlnaa

/-- Texts. -/
abbrev I64S : Type := { x : List UInt8 // x.length ≤ maxLen }
theorem wf0S : ([] : List UInt8).length ≤ maxLen := by decide
instance : Inhabited I64S := ⟨⟨[], wf0S⟩⟩
abbrev encIS (x : I64S) : Value := encStr x.1
theorem keep_sortWorldS (w : World) (blk off n : Nat) (dk : Array I64S) (os : Array Obj) : Keep (fun x => x = blk) w (sortWorld encIS w blk off n dk os) := by
  refine ⟨rfl, rfl, rfl, by simp [sortWorld, grow, putRow, mapBlock, Sort.ahead], fun i hi hne => ?_⟩
  unfold sortWorld
  rw [heap_grow_old _ _ (by simpa [putRow, mapBlock, Sort.ahead] using hi)]
  simp [putRow, mapBlock, Sort.ahead, Array.getElem?_modify, Ne.symm hne]
theorem keep_putRowS (w : World) (blk off n : Nat) (dk : Array I64S) : Keep (fun x => x = blk) w (putRow encIS (Sort.ahead w n) blk off dk) := by
  have h := keep_sortWorldS w blk off n dk #[]
  unfold sortWorld at h
  rwa [grow_empty] at h
/-- Is one who has not voted not told? -/
def votedBS (ks : List (List UInt8)) (yes : List UInt8 → Bool) (ns : List (List UInt8)) (x : List UInt8) : Bool := (memB x ks && yes x) || memB x ns
/-- What the closure reads. -/
structure ClIS (W : World) (B p by_ bn n : Nat) (ks : List (List UInt8)) (yes : List UInt8 → Bool) (ns : List (List UInt8)) : Prop where
  cap : W.cell? ⟨B, 0, none⟩ = some (.pointer (some ⟨p, 0, none⟩))
  c0 : W.cell? ⟨p, 0, none⟩ = some (.map (some by_))
  c1 : W.cell? ⟨p, 1, none⟩ = some (.map (some bn))
  ym : MapB KIS W by_ n ks yes
  nm : MapB KIS W bn n ns (fun _ => true)
theorem ClIS.keep {F : Nat → Prop} {W W' : World} {B p by_ bn n : Nat} {ks : List (List UInt8)} {yes : List UInt8 → Bool} {ns : List (List UInt8)} (h : ClIS W B p by_ bn n ks yes ns) (hk : Keep F W W') (h1 : ¬ F B) (h2 : ¬ F p) (h3 : ¬ F by_) (h4 : ¬ F bn) : ClIS W' B p by_ bn n ks yes ns :=
  ⟨hk.cell' h.cap h1, hk.cell' h.c0 h2, hk.cell' h.c1 h2, h.ym.keep hk h3, h.nm.keep hk h4⟩
theorem gives_votedS (B p by_ bn n : Nat) (ks : List (List UInt8)) (yes : List UInt8 → Bool) (ns : List (List UInt8)) (W : World) (h : ClIS W B p by_ bn n ks yes ns) (x : I64S) :
    FnGives Try.prog 25 #[.pointer (some ⟨B, 0, none⟩)] #[encIS x] (.bool (votedBS ks yes ns x.1)) W := by
  obtain ⟨x, hx⟩ := x
  show Calls Try.prog 25 #[encStr x, .pointer (some ⟨B, 0, none⟩)] W _
  have l1 : (Instr.lookup 54 (.map (some by_)) (.string ⟨x.toArray⟩) false).run Try.prog W = _ := h.ym.look Try.underlying54 hx
  have l2 : (Instr.lookup 54 (.map (some bn)) (.string ⟨x.toArray⟩) false).run Try.prog W = _ := h.nm.look Try.underlying54 hx
  have e0 := h.cap; have e1 := h.c0; have e2 := h.c1
  show Calls _ _ _ _ (fun e w' => e = .returned (.bool ((memB x ks && yes x) || memB x ns)) ∧ ∃ q, w' = W.drewN q)
  rw [Bool.and_true] at l2
  generalize (memB x ks && yes x) = b1 at l1 ⊢
  generalize memB x ns = b2 at l2 ⊢
  clear h hx
  show Calls _ _ #[.string ⟨x.toArray⟩, _] _ _
  generalize (⟨x.toArray⟩ : ByteArray) = s at l1 l2 ⊢
  cases b1
  all_goals
    go_enter Try.func25, Try.ntmps25
    go_wp2_with fail
    go_ret
    exact ⟨by simp, 0, rfl⟩
theorem votedAtS (B p by_ bn n : Nat) (ks : List (List UInt8)) (yes : List UInt8 → Bool) (ns : List (List UInt8)) (w : World) (h : ClIS w B p by_ bn n ks yes ns) :
    PredAt Try.prog 25 #[.pointer (some ⟨B, 0, none⟩)] encIS (fun x => votedBS ks yes ns x.1) w :=
  fun W x hb => gives_votedS B p by_ bn n ks yes ns W (h.keep (Keep.ofBelow hb) (fun f => f) (fun f => f) (fun f => f) (fun f => f)) x
theorem votedOverS (B p by_ bn n : Nat) (ks : List (List UInt8)) (yes : List UInt8 → Bool) (ns : List (List UInt8)) (w : World) (h : ClIS w B p by_ bn n ks yes ns) (blk size : Nat) (h1 : B ≠ blk) (h2 : p ≠ blk) (h3 : by_ ≠ blk) (h4 : bn ≠ blk) :
    PredOver Try.prog 25 #[.pointer (some ⟨B, 0, none⟩)] encIS (fun x => votedBS ks yes ns x.1) blk 0 size w :=
  fun m os dk x _ => gives_votedS B p by_ bn n ks yes ns _ (h.keep (keep_sortWorldS w blk 0 m dk os) h1 h2 h3 h4) x

theorem ownsRow_putS {w : World} {g cap q m : Nat} {cur : Array Value} {e : TypeId} {ts : List I64S} (hb : w.heap[g]? = some (.cells cur e (0, 0))) (hm : m ≤ ts.length) (h1 : ts.length ≤ cap) (h2 : cap ≤ maxLen) (h3 : cur.size = cap * 1) :
    (putRow encIS (Sort.ahead w q) g 0 ts.toArray).ownsRow 0 e 1 (.slice (some ⟨g, 0, none⟩) m cap) m ((ts.take m).map encIS) := by
  have hh : (putRow encIS (Sort.ahead w q) g 0 ts.toArray).heap[g]? = some (.cells (putCells encIS 0 ts.toArray cur) e (0, 0)) := by
    simp [putRow, mapBlock, Sort.ahead, Array.getElem?_modify, hb, onCells]
  refine ⟨by simp; omega, .inr ⟨g, cap, _, rfl, Nat.zero_le _, hh, by omega, h2, by simp [putCells, h3], ?_⟩⟩
  apply List.ext_getElem?
  intro j
  by_cases hj : j < m
  · rw [List.getElem?_take_of_lt (by omega), Array.getElem?_toList]
    simp [putCells, hj, show j < cur.size by omega, show j < ts.length by omega]
  · rw [List.getElem?_take_eq_none (by omega), List.getElem?_eq_none (by simp; omega)]
def subLS (l : List (List UInt8)) (h : ∀ x ∈ l, x.length ≤ maxLen) : List I64S := l.pmap (fun x hx => ⟨x, hx⟩) h
theorem subL_valS (l : List (List UInt8)) (h : ∀ x ∈ l, x.length ≤ maxLen) : (subLS l h).map (·.1) = l := by simp [subLS, List.map_pmap]
theorem subL_encS (l : List (List UInt8)) (h : ∀ x ∈ l, x.length ≤ maxLen) : (subLS l h).map encIS = l.map encStr := by
  conv => rhs; rw [← subL_valS l h]
  rw [List.map_map]; rfl
theorem filter_valS (l : List (List UInt8)) (h : ∀ x ∈ l, x.length ≤ maxLen) (q : List UInt8 → Bool) : ((subLS l h).filter (fun x => q x.1)).map encIS = (l.filter q).map encStr := by
  conv => rhs; rw [← subL_valS l h]
  rw [List.filter_map, List.map_map]; rfl
def missDS (ks : List (List UInt8)) (yes : List UInt8 → Bool) (ns : List (List UInt8)) : List (List UInt8) := (sortDS ks).filter fun x => !votedBS ks yes ns x

theorem idxnilS (fv : Value) (W : World) : Calls Try.prog 32 #[.slice none 0 0, fv] W fun e w' => e = .returned (.int .i64 (-1)) ∧ w' = W := by
  go_enter Try.func32, Try.ntmps32
  go_wp2_with fail
  refine wp_loop_rounds 1 ?_
  rw [rounds_succ]
  go_wp2_with fail
  go_ret
  exact ⟨rfl, rfl⟩
theorem delnilS (fv : Value) (W : World) : Calls Try.prog 24 #[.slice none 0 0, fv] W fun e w' => e = .returned (.slice none 0 0) ∧ w' = W := by
  go_enter Try.func24, Try.ntmps24
  go_wp2_with fail
  refine (idxnilS fv W).mono ?_
  rintro e w' ⟨rfl, rfl⟩
  go_wp2_with fail
  go_ret
  exact ⟨rfl, rfl⟩

theorem BalIS.keep {w w' : World} {p by_ bn n : Nat} {ks : List (List UInt8)} {yes : List UInt8 → Bool} {ns : List (List UInt8)} (h : BalIS w p by_ bn n ks yes ns) (hk : Keep NoF w w') : BalIS w' p by_ bn n ks yes ns :=
  ⟨by rw [hk.block p (lt_of_heap h.row) (fun f => f)]; exact h.row, h.ym.keep hk (fun f => f), h.nm.keep hk (fun f => f), h.ne⟩
set_option maxHeartbeats 1000000 in
theorem missing_anyS (p by_ bn n : Nat) (ks : List (List UInt8)) (yes : List UInt8 → Bool) (ns : List (List UInt8)) (w : World) (h : BalIS w p by_ bn n ks yes ns) (hn : n ≤ 10000) :
    Calls Try.prog 18 #[.pointer (some ⟨p, 0, none⟩)] w fun e w' => ∃ v, e = .returned v ∧ w'.ownsRow 0 9 1 v (missDS ks yes ns).length ((missDS ks yes ns).map encStr) ∧ Keep NoF w w' ∧ ∀ k, v.ownBlock = some k → w.heap.size ≤ k := by
  have H := Lib.hid h
  have hp := lt_of_heap h.row
  have hb := h.ym.lt
  have hbn := h.nm.lt
  have hks : ∀ x ∈ sortDS ks, x.length ≤ maxLen := fun x hx => h.ym.1 x (mem_sortDS.1 hx)
  have HKS := Lib.hid hks
  clear h hks
  go_enter Try.func18, Try.ntmps18
  go_wp2_with fail
  have ka : Keep NoF w (w.alloc (.cells #[.pointer (some ⟨p, 0, none⟩)] 38)) := (Keep.refl NoF w).alloc _
  refine (voters_anyS p by_ bn n ks yes ns _ (H.out.keep ka) hn).mono ?_
  rintro e w1 ⟨v, rfl, hrow, hnil, hk⟩
  have hk1 := ka.trans' hk
  have HC : ClIS w1 w.heap.size p by_ bn n ks yes ns := by
    have hB := H.out.keep hk1
    refine ⟨?_, by rw [cell_of_heap hB.row]; rfl, by rw [cell_of_heap hB.row]; rfl, hB.ym, hB.nm⟩
    have := heap_new w (.cells #[.pointer (some ⟨p, 0, none⟩)] 38)
    rw [← hk.block _ (lt_of_heap this) (fun f => f)] at this
    rw [cell_of_heap this]; rfl
  have K1 := Lib.hid hk1
  rcases hrow.2 with ⟨rfl, he⟩ | ⟨g, cap, cur, rfl, hgb, hh, hlc, hcm, hcs, htk⟩
  · have hs : sortDS ks = [] := hnil.1 rfl
    have hm : missDS ks yes ns = [] := by rw [missDS, hs]; rfl
    have HM := Lib.hid hm
    clear hrow hnil hk hk1 HC he hs hm
    go_wp2_with fail
    refine (delnilS _ _).mono ?_
    rintro e w2 ⟨rfl, rfl⟩
    go_wp2_with fail
    go_ret
    rw [HM.out]
    exact ⟨_, rfl, World.ownsRow_nil _ _ _ _, K1.out, nofun⟩
  · simp at hgb
    have hlen : (subLS (sortDS ks) HKS.out).length = (sortDS ks).length := by simp [subLS]
    have hHolds : Holds encIS w1 g 0 (subLS (sortDS ks) HKS.out).toArray := by
      intro j hj
      have hj' : j < (sortDS ks).length := by simpa [hlen] using hj
      refine ⟨?_, by simp [World.frozen?, hh]⟩
      rw [Nat.zero_add, hrow.cellAt j (by omega), ← subL_encS (sortDS ks) HKS.out, List.getElem?_map]
      rw [List.getElem?_eq_getElem (by omega), getElem!_pos _ j (by simpa [hlen] using hj')]
      simp
    have eg : ∀ args w, (callFunc 25 args).run Try.prog w = .ok (.enter 25 args) w := enters_of Try.func25 (by kernel_rfl) rfl
    have hcon := AnyE.slices_DeleteFunc Try.delS encIS (fun _ => rfl) (fun x => votedBS ks yes ns x.1) 25 #[.pointer (some ⟨w.heap.size, 0, none⟩)] eg (⟨[], wf0S⟩ : I64S) (fun _ => by kernel_rfl) g 0 cap (subLS (sortDS ks) HKS.out).toArray w1
      (votedAtS _ _ _ _ _ _ _ _ _ HC) (votedOverS _ _ _ _ _ _ _ _ _ HC g _ (by omega) (by omega) (by omega) (by omega)) hHolds (by simp [hlen]; unfold maxLen at hcm; omega) (by simp [hlen]; omega)
    change Calls Try.prog 24 _ _ _ at hcon
    simp only [List.size_toArray, hlen] at hcon
    have hfl : ((subLS (sortDS ks) HKS.out).filter (fun x => !votedBS ks yes ns x.1)).length = (missDS ks yes ns).length := by
      have := congrArg List.length (filter_valS (sortDS ks) HKS.out (fun x => !votedBS ks yes ns x))
      simpa [missDS] using this
    have hfe := filter_valS (sortDS ks) HKS.out (fun x => !votedBS ks yes ns x)
    have HFL := Lib.hid hfl; have HFE := Lib.hid hfe
    rw [hfl] at hcon
    have hml : (missDS ks yes ns).length ≤ (sortDS ks).length := List.length_filter_le _ _
    have HCON := Lib.hid hcon; have HH := Lib.hid hh
    have HLN := Lib.hid (And.intro hlen (And.intro hml (And.intro hlc (And.intro hcm hcs))))
    have hgw : w.heap.size ≤ g := by omega
    clear hrow hnil hk hk1 HC hHolds hcon hlen hfl hfe hml hlc hcm hcs htk hh eg hgb
    obtain ⟨L, hL⟩ : ∃ L, (sortDS ks).length = L := ⟨_, rfl⟩
    rw [hL] at HCON HLN ⊢
    go_wp2_with fail
    refine HCON.out.mono ?_
    rintro e w2 ⟨rfl, q, rfl⟩
    have hk3 := keep_putRowS w1 g 0 q (((subLS (sortDS ks) HKS.out).filter fun x : I64S => !votedBS ks yes ns x.1) ++ List.replicate (L - (missDS ks yes ns).length) (⟨[], wf0S⟩ : I64S)).toArray
    have ho := ownsRow_putS (q := q) (m := (missDS ks yes ns).length) (ts := ((subLS (sortDS ks) HKS.out).filter fun x : I64S => !votedBS ks yes ns x.1) ++ List.replicate (L - (missDS ks yes ns).length) (⟨[], wf0S⟩ : I64S)) HH.out (by rw [List.length_append, HFL.out]; omega) (by rw [List.length_append, HFL.out, List.length_replicate]; have := HLN.out; omega) HLN.out.2.2.2.1 HLN.out.2.2.2.2
    rw [List.take_append_of_le_length (by rw [HFL.out]; omega), List.take_of_length_le (by rw [HFL.out]; omega), HFE.out] at ho
    have HO := Lib.hid ho; have K3 := Lib.hid hk3
    clear ho hk3
    generalize putRow encIS (Sort.ahead w1 q) g 0 _ = W2 at HO K3 ⊢
    go_wp2_with fail
    go_ret
    exact ⟨_, rfl, HO.out, K1.out.trans K3.out (fun _ _ f => f) (fun i hi e => by rw [e] at hi; omega), fun k hk => by injection hk with hk; rw [← hk]; exact hgw⟩
end Go.Proofs.Ytlbpmhpcoihlnaa
