/- slices.Insert of one element of two cells. -/
import Derived.Test.YtdbgplnjppaimaaGreatBagK
import Derived.Test.YtdbgplnjppaimaaGreatChecked
import Derived.Laws.Externs
import Derived.Deep.CutRange
import Derived.Deep.RegionHeld
open Go Go.RowKit
namespace Go.Proofs.YtdbgplnjppaimaaGreat
theorem infoBS : (Tryz.prog.info? 117).map (fun i => (i.zero, i.size, i.bytes)) = some (some (.agg #[.string ByteArray.empty, .int .i64 0]), 2, 24) := by kernel_rfl
theorem sizeBS : (Tryz.prog.info? 117).map (·.size) = some 2 := by kernel_rfl
def InsPS (w : World) (v : Value) (n i : Nat) (xs : List Value) (y1 y2 : Value) (e : Ending) (w' : World) : Prop :=
  ∃ v', e = .returned v' ∧ w'.ownsRow 0 117 2 v' (n + 1) (xs.take (i * 2) ++ [y1, y2] ++ xs.drop (i * 2)) ∧ w.grownBy w' v.ownBlock ∧ (∀ g, v'.ownBlock = some g → v.ownBlock = some g ∨ w.heap.size ≤ g)
set_option maxHeartbeats 4000000 in
theorem insS_end (ao : Option Addr) (cp n q : Nat) (xs : List Value) (y1 y2 : Value) (w : World) (h : w.ownsRow 0 117 2 (.slice ao n cp) n xs) (hy : y1.oneCell' = true ∧ y2.oneCell' = true)
    (hq : w.heap[q]? = some (.cells #[y1, y2] 117 (0, 0))) (hn : n ≤ 1000000) :
    Calls Tryz.prog 78 #[.slice ao n cp, .int .i64 n, .slice (some ⟨q, 0, none⟩) 1 1] w (InsPS w (.slice ao n cp) n n xs y1 y2) := by
  have H := Lib.hid h; have HS := Lib.hid (src2 hq hy.1 hy.2 Tryz.underlying107)
  clear h hq hy
  go_enter Tryz.func78, Tryz.ntmps78
  go_wp2_with (at_builtin; refine wpList_app 107 107 117 (.agg #[.string ByteArray.empty, .int .i64 0]) 2 24 Tryz.underlying107 infoBS rfl (by decide) (by decide) rfl rfl rfl rfl H.out HS.out (by omega) ?_)
  all_goals
    intro a9 c9 w9 hown hgr hfr
    have HOW := Lib.hid hown; have HGR := Lib.hid hgr; have HFR := Lib.hid hfr
    clear hown hgr hfr
    go_wp2_with fail
    go_ret
    refine ⟨.slice a9 (n + 1) c9, rfl, ?_, (by have h9 := HGR.out; rw [own_cap ao n _ cp] at h9; exact h9), fun g hg => ?_⟩
    · have := HOW.out
      rw [show xs.take (n * 2) = xs from List.take_of_length_le (by rw [H.out.1]; exact Nat.le_refl _), show xs.drop (n * 2) = [] from List.drop_eq_nil_of_le (by rw [H.out.1]; exact Nat.le_refl _), List.append_nil]
      exact this
    · rcases HFR.out with f | f
      · exact .inl (by rw [own_cap ao n _ cp] at f; rw [← f]; exact hg)
      · rw [f] at hg; injection hg with hg; exact .inr (Nat.le_of_eq hg)
set_option maxHeartbeats 4000000 in
set_option maxRecDepth 4000 in
theorem insS_grow (g0 n i q : Nat) (xs : List Value) (y1 y2 : Value) (w : World) (h : w.ownsRow 0 117 2 (.slice (some ⟨g0, 0, none⟩) n n) n xs) (hx : ∀ u ∈ xs, u.oneCell' = true) (hy : y1.oneCell' = true ∧ y2.oneCell' = true)
    (hq : w.heap[q]? = some (.cells #[y1, y2] 117 (0, 0))) (hn : n ≤ 1000000) (hi : i < n) :
    Calls Tryz.prog 78 #[.slice (some ⟨g0, 0, none⟩) n n, .int .i64 i, .slice (some ⟨q, 0, none⟩) 1 1] w (InsPS w (.slice (some ⟨g0, 0, none⟩) n n) n i xs y1 y2) := by
  have H := Lib.hid h; have HQ := Lib.hid hq; have HY := Lib.hid hy
  have HXD : Hid (∀ v ∈ xs.drop (i * 2), v.oneCell' = true) := Lib.hid fun v hv => hx v (List.mem_of_mem_drop hv)
  have HP := Lib.hid (row_pre h i (by omega))
  have hq2 := lt_of_heap hq
  clear h hq hy hx
  have hne : ((i : Int) == n) = false := by simp; omega
  have hgt : (n : Int) < n + 1 := by omega
  obtain ⟨k, hk⟩ : ∃ k : Nat, (n : Int) + 1 - i = k := ⟨n + 1 - i, by omega⟩
  have hki : i + k = n + 1 := by omega
  obtain ⟨g2, hg2⟩ : ∃ g2, w.heap.size = g2 := ⟨_, rfl⟩
  go_enter Tryz.func78, Tryz.ntmps78
  go_wp2_with (at_builtin; refine wpList_appz 107 3 117 (.agg #[.string ByteArray.empty, .int .i64 0]) 2 24 rfl Tryz.underlying107 Tryz.underlying3 infoBS rfl (by decide) rfl (k := k) rfl rfl HP.out (by omega) (by omega) (by omega) (by omega) (n + 1) hki g2 hg2 ?_)
  intro w1 c1 cur1 hg1 hc1 hc1m hcs1 htk1 hgr1
  have HG1 : Hid (w1.heap[g2]? = some (.cells cur1.toList.toArray 117 (0, 0))) := Lib.hid (by simpa using hg1)
  have HTK1 := Lib.hid htk1; have HGR1 := Lib.hid hgr1
  have HQ1 : Hid (w1.heap[q]? = some (.cells #[y1, y2] 117 (0, 0))) := Lib.hid (by rw [hgr1.block q hq2 (by simp)]; exact HQ.out)
  have hcl : cur1.toList.length = c1 * 2 := by simpa using hcs1
  clear hg1 htk1 hgr1 hcs1
  have hm1 : [y1, y2].length = Nat.min 1 (n + 1 - i) * 2 := by
    rw [show Nat.min 1 (n + 1 - i) = 1 from Nat.min_eq_left (by omega)]; rfl
  have hm2 : i * 2 + [y1, y2].length ≤ cur1.toList.length := by rw [hcl]; simp; omega
  have HM1 := Lib.hid hm1; have HM2 := Lib.hid hm2; have HSC := Lib.hid (src2_cell HQ1.out)
  have HONE : Hid (∀ v ∈ [y1, y2], v.oneCell' = true) := Lib.hid (by simp [HY.out.1, HY.out.2])
  clear hm1 hm2
  have hw : IntKind.i64.wrap ((i : Int) + 1) = (i : Int) + 1 := by rw [IntKind.wrap_i64]; omega
  have hw2 : ((i : Int) + 1).toNat = i + 1 := by omega
  have hw3 : 0 ≤ (i : Int) + 1 := by omega
  have hw4 : (i : Int) + 1 ≤ (n : Int) + 1 := by omega
  have hw6 : (i : Int) ≤ n := by omega
  have hw5 : ¬ c1 = i + 1 := by omega
  have hw7 : ¬ n = i := by omega
  go_wp2_with (refine wpList_copyN (.tmp 43) (.tmp 44) 107 107 117 2 ?_ ?_ Tryz.underlying107 sizeBS g2 (i * 2) (n + 1 - i) (c1 - i) ⟨q, 0, none⟩ 1 1 ?_ ?_ cur1.toList 117 HG1.out [y1, y2] HM1.out HSC.out HM2.out HONE.out ?_; rfl; rfl; rfl; rfl)
  intro w2 q2 hg2' hgr2
  have HG2 := Lib.hid hg2'; have HGR2 := Lib.hid hgr2
  have HG2D : Hid (w2.drew.heap[g2]? = some (.cells (over cur1.toList (i * 2) [y1, y2]).toArray 117 (0, 0))) := Lib.hid hg2'
  have HSRC : Hid (∀ j v, (xs.drop (i * 2))[j]? = some v → w2.drew.cell? ((Addr.mk g0 (i * 2) none).add j) = some v) := Lib.hid fun j v hv => by
    rw [List.getElem?_drop] at hv
    have h1 := H.out.cells (g := g0) rfl (i * 2 + j) v hv
    rw [addr_at, Nat.zero_add] at h1
    have hlt : g0 < w.heap.size := World.block_lt_of_cell? w _ h1
    rw [addr_at]
    refine Eq.trans ?_ h1
    have e1 := HGR1.out.block g0 hlt (by simp)
    have e2 := hgr2.block g0 (Nat.lt_of_lt_of_le hlt HGR1.out.size) (by rw [← hg2]; simp; omega)
    show w2.cell? _ = w.cell? _
    simp only [World.cell?, e1, e2]
  have HMN : Hid ((xs.drop (i * 2)).length = Nat.min (n - i) (n - i) * 2) := Lib.hid (by
    rw [List.length_drop, H.out.1, show Nat.min (n - i) (n - i) = n - i from Nat.min_self _]; omega)
  have HFT : Hid ((i + 1) * 2 + (xs.drop (i * 2)).length ≤ (over cur1.toList (i * 2) [y1, y2]).length) := Lib.hid (by
    rw [over_length (by rw [hcl]; simp; omega), hcl, List.length_drop, H.out.1]; omega)
  clear hg2' hgr2
  go_upto_region 11 with fail
  refine wp_region_noPanic ?_
  refine wp_region_held_drew (S := fun _ => True) (by kernel_rfl) (trivial) (fun hHeld => ?_)
  refine wpAnyH_take (i := 0) (oi := ?oG0) (v := ?vG0) ?hiG0 (by kernel_rfl) (by kernel_rfl) (by kernel_rfl) (fun _ _ _ h => h) (Or.inl ⟨?wG0, ?yG0⟩) (by assumption) ?rG0
  case hiG0 => (simp only [List.getElem?_toArray, List.getElem?_cons_zero]; try rfl)
  case wG0 => rfl
  case yG0 => (intro w hSw; (try dsimp only at hSw); go_simp; (try with_reducible rfl))
  (try simp only [Act.put, List.setIfInBounds_toArray, List.set_cons_zero, List.set_cons_succ])
  refine wpAnyH_take (i := 1) (oi := ?oG1) (v := ?vG1) ?hiG1 (by kernel_rfl) (by kernel_rfl) (by kernel_rfl) (fun _ _ _ h => h) (Or.inl ⟨?wG1, ?yG1⟩) (by assumption) ?rG1
  case hiG1 => (simp only [List.getElem?_toArray, List.getElem?_cons_succ, List.getElem?_cons_zero]; try rfl)
  case wG1 => rfl
  case yG1 => (intro w hSw; (try dsimp only at hSw); go_simp; (try with_reducible rfl))
  (try simp only [Act.put, List.setIfInBounds_toArray, List.set_cons_zero, List.set_cons_succ])
  refine wpAnyH_take (i := 2) (oi := ?oG2) (v := ?vG2) ?hiG2 (by kernel_rfl) (by kernel_rfl) (by kernel_rfl) (fun _ _ _ h => h) (Or.inl ⟨?wG2, ?yG2⟩) (by assumption) ?rG2
  case hiG2 => (simp only [List.getElem?_toArray, List.getElem?_cons_succ, List.getElem?_cons_zero]; try rfl)
  case wG2 => rfl
  case yG2 => (intro w hSw; (try dsimp only at hSw); go_simp; (try with_reducible rfl))
  (try simp only [Act.put, List.setIfInBounds_toArray, List.set_cons_zero, List.set_cons_succ])
  refine wpAnyH_take (i := 3) (oi := ?oG3) (v := ?vG3) ?hiG3 (by kernel_rfl) (by kernel_rfl) (by kernel_rfl) (fun _ _ _ h => h) (Or.inl ⟨?wG3, ?yG3⟩) (by assumption) ?rG3
  case hiG3 => (simp only [List.getElem?_toArray, List.getElem?_cons_succ, List.getElem?_cons_zero]; try rfl)
  case wG3 => rfl
  case yG3 => (intro w hSw; (try dsimp only at hSw); go_simp; (try with_reducible rfl))
  (try simp only [Act.put, List.setIfInBounds_toArray, List.set_cons_zero, List.set_cons_succ])
  refine wpAnyH_take (i := 4) (oi := ?oG4) (v := ?vG4) ?hiG4 (by kernel_rfl) (by kernel_rfl) (by kernel_rfl) (fun _ _ _ h => h) (Or.inl ⟨?wG4, ?yG4⟩) (by assumption) ?rG4
  case hiG4 => (simp only [List.getElem?_toArray, List.getElem?_cons_succ, List.getElem?_cons_zero]; try rfl)
  case wG4 => rfl
  case yG4 => (intro w hSw; (try dsimp only at hSw); go_simp; (try with_reducible rfl))
  (try simp only [Act.put, List.setIfInBounds_toArray, List.set_cons_zero, List.set_cons_succ])
  refine wpAnyH_take (i := 5) (oi := ?oG5) (v := ?vG5) ?hiG5 (by kernel_rfl) (by kernel_rfl) (by kernel_rfl) (fun _ _ _ h => h) (Or.inl ⟨?wG5, ?yG5⟩) (by assumption) ?rG5
  case hiG5 => (simp only [List.getElem?_toArray, List.getElem?_cons_succ, List.getElem?_cons_zero]; try rfl)
  case wG5 => rfl
  case yG5 => (intro w hSw; (try dsimp only at hSw); go_simp; (try with_reducible rfl))
  (try simp only [Act.put, List.setIfInBounds_toArray, List.set_cons_zero, List.set_cons_succ])
  refine wpAnyH_take (i := 6) (oi := ?oG6) (v := ?vG6) ?hiG6 (by kernel_rfl) (by kernel_rfl) (by kernel_rfl) (fun _ _ _ h => h) (Or.inl ⟨?wG6, ?yG6⟩) (by assumption) ?rG6
  case hiG6 => (simp only [List.getElem?_toArray, List.getElem?_cons_succ, List.getElem?_cons_zero]; try rfl)
  case wG6 => rfl
  case yG6 => (intro w hSw; (try dsimp only at hSw); go_simp; (try with_reducible rfl))
  (try simp only [Act.put, List.setIfInBounds_toArray, List.set_cons_zero, List.set_cons_succ])
  refine wpAnyH_take (i := 7) (oi := ?oG7) (v := ?vG7) ?hiG7 (by kernel_rfl) (by kernel_rfl) (by kernel_rfl) (fun _ _ _ h => h) (Or.inl ⟨?wG7, ?yG7⟩) (by assumption) ?rG7
  case hiG7 => (simp only [List.getElem?_toArray, List.getElem?_cons_succ, List.getElem?_cons_zero]; try rfl)
  case wG7 => rfl
  case yG7 => (intro w hSw; (try dsimp only at hSw); go_simp; (try with_reducible rfl))
  (try simp only [Act.put, List.setIfInBounds_toArray, List.set_cons_zero, List.set_cons_succ])
  refine wpAnyH_ready (rs := [8]) (by kernel_rfl) (by simp) ?_
  refine AllReadyH.cons (o := ?oG8) ?hiG8 (fun K hK => ?_) AllReadyH.nil
  case hiG8 => (simp only [List.getElem?_toArray, List.getElem?_cons_succ, List.getElem?_cons_zero]; try rfl)
  refine step_copyN _ _ 107 107 117 2 rfl rfl Tryz.underlying107 sizeBS g2 ((i + 1) * 2) (n - i) (c1 - (i + 1)) ⟨g0, i * 2, none⟩ (n - i) (n - i) rfl rfl (over cur1.toList (i * 2) [y1, y2]) 117 HG2D.out (xs.drop (i * 2)) HMN.out HSRC.out HFT.out HXD.out ?_
  intro w3 q3 hg3 hgr3
  refine hK.out _ _ (trivial) (fun hHeld => ?_)
  clear hK K
  (try simp only [Act.put, List.setIfInBounds_toArray, List.set_cons_zero, List.set_cons_succ])
  refine wpAnyH_done (by kernel_rfl) ?_ _
  refine NoPanic.normal ?_
  have HG3 := Lib.hid hg3; have HGR3 := Lib.hid hgr3
  clear hg3 hgr3
  go_wp2_with fail
  go_ret
  refine ⟨.slice (some ⟨g2, 0, none⟩) (n + 1) c1, rfl, ⟨by simp [H.out.1]; omega, .inr ⟨g2, c1, _, rfl, Nat.zero_le _, HG3.out, hc1, hc1m, ?_, ?_⟩⟩, ?_, fun g hg => ?_⟩
  · rw [List.size_toArray, over_length HFT.out, over_length HM2.out, hcl]
  · exact ins_cells1 H.out.1 (by omega) HTK1.out
  · have k1 : Keep NoF w w1 := (Keep.refl NoF w).grown HGR1.out (fun k _ e => by cases e)
    have k2 : Keep NoF w w2.drew := (k1.grown HGR2.out (fun k hk e => by injection e with e; omega)).drew
    have k3 : Keep NoF w w3 := k2.grown HGR3.out (fun k hk e => by injection e with e; omega)
    exact ⟨k3.os, k3.tape, k3.output, k3.size, fun k hk _ => k3.block k hk (fun f => f)⟩
  · injection hg with hg
    exact .inr (by rw [← hg]; exact Nat.le_of_eq hg2)
set_option maxHeartbeats 4000000 in
set_option maxRecDepth 4000 in
theorem insS_room (g0 n cp i q : Nat) (xs : List Value) (y1 y2 : Value) (w : World) (h : w.ownsRow 0 117 2 (.slice (some ⟨g0, 0, none⟩) n cp) n xs) (hx : ∀ u ∈ xs, u.oneCell' = true) (hy : y1.oneCell' = true ∧ y2.oneCell' = true)
    (hq : w.heap[q]? = some (.cells #[y1, y2] 117 (0, 0))) (hqg : q ≠ g0) (hn : n ≤ 1000000) (hi : i < n) (hcp : n + 1 ≤ cp) :
    Calls Tryz.prog 78 #[.slice (some ⟨g0, 0, none⟩) n cp, .int .i64 i, .slice (some ⟨q, 0, none⟩) 1 1] w (InsPS w (.slice (some ⟨g0, 0, none⟩) n cp) n i xs y1 y2) := by
  obtain ⟨cur, hg0, hcm, hcs, htk⟩ : ∃ cur, w.heap[g0]? = some (.cells cur 117 (0, 0)) ∧ cp ≤ maxLen ∧ cur.size = cp * 2 ∧ cur.toList.take (n * 2) = xs := by
    rcases h.2 with ⟨e, _⟩ | ⟨g, cap, cur, e, _, hg, _, h5, h6, h7⟩
    · cases e
    · injection e with e1 e2 e3
      injection e1 with e1
      injection e1 with e1 _ _
      subst e1 e3
      exact ⟨cur, hg, h5, h6, h7⟩
  have hcl : cur.toList.length = cp * 2 := by simpa using hcs
  have HXL := Lib.hid h.1
  have HQ := Lib.hid hq; have HY := Lib.hid hy; have HTK := Lib.hid htk
  have HXD : Hid (∀ v ∈ xs.drop (i * 2), v.oneCell' = true) := Lib.hid fun v hv => hx v (List.mem_of_mem_drop hv)
  have HG0D : Hid (w.drew.heap[g0]? = some (.cells cur.toList.toArray 117 (0, 0))) := Lib.hid (show w.heap[g0]? = _ by simpa using hg0)
  have HSRC : Hid (∀ j v, (xs.drop (i * 2))[j]? = some v → w.drew.cell? ((Addr.mk g0 (i * 2) none).add j) = some v) := Lib.hid fun j v hv => by
    rw [List.getElem?_drop] at hv
    have h1 := h.cells (g := g0) rfl (i * 2 + j) v hv
    rw [addr_at, Nat.zero_add] at h1
    rw [addr_at]
    exact h1
  have HMN : Hid ((xs.drop (i * 2)).length = Nat.min (n + 1 - i) (n - i) * 2) := Lib.hid (by
    rw [List.length_drop, HXL.out, show Nat.min (n + 1 - i) (n - i) = n - i from Nat.min_eq_right (by omega)]; omega)
  have HFT : Hid ((i + 1) * 2 + (xs.drop (i * 2)).length ≤ cur.toList.length) := Lib.hid (by
    rw [hcl, List.length_drop, HXL.out]; omega)
  have hne : ((i : Int) == n) = false := by simp; omega
  have hgt : ¬ ((cp : Int) < n + 1) := by omega
  have hc9 : ¬ cp = i + 1 := by omega
  have hc8 : ¬ cp = i := by omega
  unfold maxLen at hcm
  have hov : ∀ lb cb, (callFunc 103 #[.slice (some ⟨q, 0, none⟩) 1 1, .slice (some ⟨g0, (i + 1) * 2, none⟩) lb cb]).run Tryz.prog w = .ok (.value (.bool false)) w := fun lb cb => by
    rw [run_callFunc_extern Tryz.func103 (by kernel_rfl) (by kernel_rfl) (by kernel_rfl) (e := Extern.SlicesOverlaps.overlaps #[107, 107] #[4]) (by kernel_rfl),
      Lib.run_overlaps_apart w 107 4 117 Tryz.underlying107 2 Tryz.sizeOf117 ⟨q, 0, none⟩ ⟨g0, (i + 1) * 2, none⟩ 1 1 lb cb hqg 117 117 2 (cp * 2) (by simp [World.shape?, hq]) (by simp [World.shape?, hg0, hcs]) (by omega) (free_of_heap hq 0) (free_of_heap hq 2)]
    rfl
  clear h hx hy hq hg0 htk hcs
  have hw : IntKind.i64.wrap ((i : Int) + 1) = (i : Int) + 1 := by rw [IntKind.wrap_i64]; omega
  have hw2 : ((i : Int) + 1).toNat = i + 1 := by omega
  have hw3 : 0 ≤ (i : Int) + 1 := by omega
  have hw4 : (i : Int) + 1 ≤ (n : Int) + 1 := by omega
  have hw6 : (i : Int) ≤ (n : Int) + 1 := by omega
  go_enter Tryz.func78, Tryz.ntmps78
  go_upto_region 15 with fail
  refine wp_region_noPanic ?_
  refine wp_region_held_drew (S := fun _ => True) (by kernel_rfl) (trivial) (fun hHeld => ?_)
  refine wpAnyH_take (i := 0) (oi := ?oH0) (v := ?vH0) ?hiH0 (by kernel_rfl) (by kernel_rfl) (by kernel_rfl) (fun _ _ _ h => h) (Or.inl ⟨?wH0, ?yH0⟩) (by assumption) ?rH0
  case hiH0 => (simp only [List.getElem?_toArray, List.getElem?_cons_zero]; try rfl)
  case wH0 => rfl
  case yH0 => (intro w hSw; (try dsimp only at hSw); go_simp; (try with_reducible rfl))
  (try simp only [Act.put, List.setIfInBounds_toArray, List.set_cons_zero, List.set_cons_succ])
  refine wpAnyH_take (i := 1) (oi := ?oH1) (v := ?vH1) ?hiH1 (by kernel_rfl) (by kernel_rfl) (by kernel_rfl) (fun _ _ _ h => h) (Or.inl ⟨?wH1, ?yH1⟩) (by assumption) ?rH1
  case hiH1 => (simp only [List.getElem?_toArray, List.getElem?_cons_succ, List.getElem?_cons_zero]; try rfl)
  case wH1 => rfl
  case yH1 => (intro w hSw; (try dsimp only at hSw); go_simp; (try with_reducible rfl))
  (try simp only [Act.put, List.setIfInBounds_toArray, List.set_cons_zero, List.set_cons_succ])
  refine wpAnyH_take (i := 2) (oi := ?oH2) (v := ?vH2) ?hiH2 (by kernel_rfl) (by kernel_rfl) (by kernel_rfl) (fun _ _ _ h => h) (Or.inl ⟨?wH2, ?yH2⟩) (by assumption) ?rH2
  case hiH2 => (simp only [List.getElem?_toArray, List.getElem?_cons_succ, List.getElem?_cons_zero]; try rfl)
  case wH2 => rfl
  case yH2 => (intro w hSw; (try dsimp only at hSw); go_simp; (try with_reducible rfl))
  (try simp only [Act.put, List.setIfInBounds_toArray, List.set_cons_zero, List.set_cons_succ])
  refine wpAnyH_take (i := 3) (oi := ?oH3) (v := ?vH3) ?hiH3 (by kernel_rfl) (by kernel_rfl) (by kernel_rfl) (fun _ _ _ h => h) (Or.inl ⟨?wH3, ?yH3⟩) (by assumption) ?rH3
  case hiH3 => (simp only [List.getElem?_toArray, List.getElem?_cons_succ, List.getElem?_cons_zero]; try rfl)
  case wH3 => rfl
  case yH3 => (intro w hSw; (try dsimp only at hSw); go_simp; (try with_reducible rfl))
  (try simp only [Act.put, List.setIfInBounds_toArray, List.set_cons_zero, List.set_cons_succ])
  refine wpAnyH_take (i := 4) (oi := ?oH4) (v := ?vH4) ?hiH4 (by kernel_rfl) (by kernel_rfl) (by kernel_rfl) (fun _ _ _ h => h) (Or.inl ⟨?wH4, ?yH4⟩) (by assumption) ?rH4
  case hiH4 => (simp only [List.getElem?_toArray, List.getElem?_cons_succ, List.getElem?_cons_zero]; try rfl)
  case wH4 => rfl
  case yH4 => (intro w hSw; (try dsimp only at hSw); go_simp; (try with_reducible rfl))
  (try simp only [Act.put, List.setIfInBounds_toArray, List.set_cons_zero, List.set_cons_succ])
  refine wpAnyH_take (i := 5) (oi := ?oH5) (v := ?vH5) ?hiH5 (by kernel_rfl) (by kernel_rfl) (by kernel_rfl) (fun _ _ _ h => h) (Or.inl ⟨?wH5, ?yH5⟩) (by assumption) ?rH5
  case hiH5 => (simp only [List.getElem?_toArray, List.getElem?_cons_succ, List.getElem?_cons_zero]; try rfl)
  case wH5 => rfl
  case yH5 => (intro w hSw; (try dsimp only at hSw); go_simp; (try with_reducible rfl))
  (try simp only [Act.put, List.setIfInBounds_toArray, List.set_cons_zero, List.set_cons_succ])
  refine wpAnyH_take (i := 6) (oi := ?oH6) (v := ?vH6) ?hiH6 (by kernel_rfl) (by kernel_rfl) (by kernel_rfl) (fun _ _ _ h => h) (Or.inl ⟨?wH6, ?yH6⟩) (by assumption) ?rH6
  case hiH6 => (simp only [List.getElem?_toArray, List.getElem?_cons_succ, List.getElem?_cons_zero]; try rfl)
  case wH6 => rfl
  case yH6 => (intro w hSw; (try dsimp only at hSw); go_simp; (try with_reducible rfl))
  (try simp only [Act.put, List.setIfInBounds_toArray, List.set_cons_zero, List.set_cons_succ])
  refine wpAnyH_take (i := 7) (oi := ?oH7) (v := ?vH7) ?hiH7 (by kernel_rfl) (by kernel_rfl) (by kernel_rfl) (fun _ _ _ h => h) (Or.inl ⟨?wH7, ?yH7⟩) (by assumption) ?rH7
  case hiH7 => (simp only [List.getElem?_toArray, List.getElem?_cons_succ, List.getElem?_cons_zero]; try rfl)
  case wH7 => rfl
  case yH7 => (intro w hSw; (try dsimp only at hSw); go_simp; (try with_reducible rfl))
  (try simp only [Act.put, List.setIfInBounds_toArray, List.set_cons_zero, List.set_cons_succ])
  refine wpAnyH_ready (rs := [8]) (by kernel_rfl) (by simp) ?_
  refine AllReadyH.cons (o := ?oH8) ?hiH8 (fun K hK => ?_) AllReadyH.nil
  case hiH8 => (simp only [List.getElem?_toArray, List.getElem?_cons_succ, List.getElem?_cons_zero]; try rfl)
  refine step_copyN _ _ 107 107 117 2 rfl rfl Tryz.underlying107 sizeBS g0 ((i + 1) * 2) (n - i) (cp - (i + 1)) ⟨g0, i * 2, none⟩ (n + 1 - i) (cp - i) rfl rfl cur.toList 117 HG0D.out (xs.drop (i * 2)) HMN.out HSRC.out HFT.out HXD.out ?_
  intro w3 q3 hg3 hgr3
  refine hK.out _ _ (trivial) (fun hHeld => ?_)
  clear hK K
  (try simp only [Act.put, List.setIfInBounds_toArray, List.set_cons_zero, List.set_cons_succ])
  refine wpAnyH_done (by kernel_rfl) ?_ _
  refine NoPanic.normal ?_
  have HG3 := Lib.hid hg3; have HGR3 := Lib.hid hgr3
  have HQ3 : Hid (w3.heap[q]? = some (.cells #[y1, y2] 117 (0, 0))) := Lib.hid (by rw [hgr3.block q (lt_of_heap HQ.out) (by simp; exact hqg)]; exact HQ.out)
  clear hg3 hgr3
  have hm1 : [y1, y2].length = Nat.min 1 (n + 1 - i) * 2 := by
    rw [show Nat.min 1 (n + 1 - i) = 1 from Nat.min_eq_left (by omega)]; rfl
  have hm2 : i * 2 + [y1, y2].length ≤ (over cur.toList ((i + 1) * 2) (xs.drop (i * 2))).length := by
    rw [over_length (by rw [List.length_drop, HXL.out, hcl]; omega), hcl]; simp; omega
  have HM1 := Lib.hid hm1; have HM2 := Lib.hid hm2; have HSC := Lib.hid (src2_cell HQ3.out)
  have HONE : Hid (∀ v ∈ [y1, y2], v.oneCell' = true) := Lib.hid (by simp [HY.out.1, HY.out.2])
  clear hm1 hm2
  go_wp2_with (refine wpList_copyN (.tmp 80) (.tmp 81) 107 107 117 2 ?_ ?_ Tryz.underlying107 sizeBS g0 (i * 2) (n + 1 - i) (cp - i) ⟨q, 0, none⟩ 1 1 ?_ ?_ (over cur.toList ((i + 1) * 2) (xs.drop (i * 2))) 117 HG3.out [y1, y2] HM1.out HSC.out HM2.out HONE.out ?_; rfl; rfl; rfl; rfl)
  intro w4 q4 hg4 hgr4
  have HG4 := Lib.hid hg4; have HGR4 := Lib.hid hgr4
  clear hg4 hgr4
  go_wp2_with fail
  go_ret
  refine ⟨.slice (some ⟨g0, 0, none⟩) (n + 1) cp, rfl, ⟨by simp [HXL.out]; omega, .inr ⟨g0, cp, _, rfl, Nat.zero_le _, HG4.out, hcp, by unfold maxLen; exact hcm, ?_, ?_⟩⟩, ?_, fun g hg => ?_⟩
  · rw [List.size_toArray, over_length HM2.out, over_length HFT.out, hcl]
  · exact ins_cells2 HXL.out hcl hcp (by omega) HTK.out
  · have k2 : Keep (fun k => k = g0) w w3 := ((Keep.refl _ w).drew).grown HGR3.out (fun k hk e => (Option.some.inj e).symm)
    have k3 : Keep (fun k => k = g0) w w4 := k2.grown HGR4.out (fun k hk e => (Option.some.inj e).symm)
    exact ⟨k3.os, k3.tape, k3.output, k3.size, fun k hk hne => k3.block k hk (fun f => hne (by rw [f]; rfl))⟩
  · exact .inl hg
theorem insS_any (ao : Option Addr) (n cp i q : Nat) (xs : List Value) (y1 y2 : Value) (w : World) (h : w.ownsRow 0 117 2 (.slice ao n cp) n xs) (hx : ∀ u ∈ xs, u.oneCell' = true) (hy : y1.oneCell' = true ∧ y2.oneCell' = true)
    (hq : w.heap[q]? = some (.cells #[y1, y2] 117 (0, 0))) (hqg : (Value.slice ao n cp).ownBlock ≠ some q) (hn : n ≤ 1000000) (hi : i ≤ n) :
    Calls Tryz.prog 78 #[.slice ao n cp, .int .i64 i, .slice (some ⟨q, 0, none⟩) 1 1] w (InsPS w (.slice ao n cp) n i xs y1 y2) := by
  by_cases he : i = n
  · subst he
    exact insS_end ao cp i q xs y1 y2 w h hy hq hn
  · rcases h.2 with ⟨e, _⟩ | ⟨g0, cap, cur, e, _, hg, h4, _⟩
    · injection e with e1 e2 e3; omega
    · injection e with e1 e2 e3
      subst e1 e3
      by_cases hc : n + 1 ≤ cp
      · exact insS_room g0 n cp i q xs y1 y2 w h hx hy hq (fun e => hqg (by rw [e]; rfl)) hn (by omega) hc
      · obtain rfl : cp = n := by omega
        exact insS_grow g0 cp i q xs y1 y2 w h hx hy hq hn (by omega)
end Go.Proofs.YtdbgplnjppaimaaGreat
