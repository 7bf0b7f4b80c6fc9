/- slices.Delete of one element of two cells. -/
import Derived.Test.YtdbgplnjppaimaaGreatBagK
import Derived.Test.YtdbgplnjppaimaaGreatChecked
import Derived.Deep.CutRange
import Derived.Deep.RegionHeld
open Go Go.RowKit
namespace Go.Proofs.YtdbgplnjppaimaaGreat
theorem infoDS : (Tryz.prog.info? 117).map (fun i => (i.zero, i.size, i.bytes)) = some (some (.agg #[.string ByteArray.empty, .int .i64 0]), 2, 24) := by kernel_rfl
theorem zeroDS (w : World) : (zeroValue 117).run Tryz.prog w = .ok (.agg #[.string ByteArray.empty, .int .i64 0]) w := by kernel_rfl
def DelPS (w : World) (g0 k cp i : Nat) (xs : List Value) (e : Ending) (w' : World) : Prop :=
  e = .returned (.slice (some ⟨g0, 0, none⟩) k cp) ∧ w'.ownsRow 0 117 2 (.slice (some ⟨g0, 0, none⟩) k cp) k (xs.take (i * 2) ++ xs.drop ((i + 1) * 2)) ∧ w.grownBy w' (some g0)
set_option maxHeartbeats 4000000 in
set_option maxRecDepth 4000 in
theorem delS_any (g0 k cp i : Nat) (xs : List Value) (w : World) (h : w.ownsRow 0 117 2 (.slice (some ⟨g0, 0, none⟩) (k + 1) cp) (k + 1) xs) (hx : ∀ u ∈ xs, u.oneCell' = true) (hi : i ≤ k) (hn : k ≤ 1000000) :
    Calls Tryz.prog 77 #[.slice (some ⟨g0, 0, none⟩) (k + 1) cp, .int .i64 i, .int .i64 ((i : Int) + 1)] w (DelPS w g0 k cp i xs) := by
  obtain ⟨cur, hg0, hcp, hcm, hcs, htk⟩ : ∃ cur, w.heap[g0]? = some (.cells cur 117 (0, 0)) ∧ k + 1 ≤ cp ∧ cp ≤ maxLen ∧ cur.size = cp * 2 ∧ cur.toList.take ((k + 1) * 2) = xs := by
    rcases h.2 with ⟨e, _⟩ | ⟨g, cap, cur, e, _, hg, h4, h5, h6, h7⟩
    · cases e
    · injection e with e1 e2 e3
      injection e1 with e1
      injection e1 with e1 _ _
      subst e1 e3
      exact ⟨cur, hg, h4, h5, h6, h7⟩
  have hcl : cur.toList.length = cp * 2 := by simpa using hcs
  have HXL := Lib.hid h.1; have HTK := Lib.hid htk
  have HG0D : Hid (w.drew.heap[g0]? = some (.cells cur.toList.toArray 117 (0, 0))) := Lib.hid (show w.heap[g0]? = _ by simpa using hg0)
  have hdl : (xs.drop ((i + 1) * 2)).length = (k - i) * 2 := by rw [List.length_drop, h.1]; omega
  obtain ⟨qa, hqa⟩ : ∃ qa, (if cp = i + 1 then (some ⟨g0, 0, none⟩ : Option Addr) else some ⟨g0, (i + 1) * 2, none⟩) = qa := ⟨_, rfl⟩
  have HSRC : Hid (Src Tryz.prog 2 107 (.slice qa (k - i) (cp - (i + 1))) (k - i) (xs.drop ((i + 1) * 2)) w.drew) := Lib.hid (by
    rw [← hqa]
    split
    · have e0 : k - i = 0 := by omega
      have e1 : xs.drop ((i + 1) * 2) = [] := List.eq_nil_of_length_eq_zero (by rw [hdl, e0])
      rw [e0, e1]
      exact Src.ofSlice _ Tryz.underlying107 _ _ _ _ rfl (fun j u hu => by simp at hu) (by simp)
    · refine Src.ofSlice _ Tryz.underlying107 _ _ _ _ hdl (fun j u hu => ?_) (fun u hu => hx u (List.mem_of_mem_drop hu))
      rw [List.getElem?_drop] at hu
      have h1 := h.cells (g := g0) rfl ((i + 1) * 2 + j) u hu
      rw [addr_at, Nat.zero_add] at h1
      rw [addr_at]
      exact h1)
  unfold maxLen at hcm
  have hne : ((i : Int) == (i : Int) + 1) = false := by simp; omega
  have hw2 : ((i : Int) + 1).toNat = i + 1 := by omega
  have hw3 : 0 ≤ (i : Int) + 1 := by omega
  have hw4 : (i : Int) + 1 ≤ (k : Int) + 1 := by omega
  have hw5 : (i : Int) ≤ (k : Int) + 1 := by omega
  have hw6 : (i : Int) ≤ k := by omega
  have hw7 : i ≤ cp := by omega
  have hck : ¬ cp = k := by omega
  have HFT : Hid (i * 2 + (xs.drop ((i + 1) * 2)).length ≤ cur.toList.length) := Lib.hid (by rw [hcl, hdl]; omega)
  clear h hx hg0 htk hcs hdl
  go_enter Tryz.func77, Tryz.ntmps77
  go_upto_region 5 with fail
  refine wp_region_noPanic ?_
  refine wp_region_held_drew (S := fun _ => True) (by kernel_rfl) (trivial) (fun hHeld => ?_)
  refine wpAnyH_take (i := 0) (oi := ?oD0) (v := ?vD0) ?hiD0 (by kernel_rfl) (by kernel_rfl) (by kernel_rfl) (fun _ _ _ h => h) (Or.inl ⟨?wD0, ?yD0⟩) (by assumption) ?rD0
  case hiD0 => (simp only [List.getElem?_toArray, List.getElem?_cons_zero]; try rfl)
  case wD0 => rfl
  case yD0 => (intro w hSw; (try dsimp only at hSw); go_simp; (try with_reducible rfl))
  (try simp only [Act.put, List.setIfInBounds_toArray, List.set_cons_zero, List.set_cons_succ])
  refine wpAnyH_take (i := 1) (oi := ?oD1) (v := ?vD1) ?hiD1 (by kernel_rfl) (by kernel_rfl) (by kernel_rfl) (fun _ _ _ h => h) (Or.inl ⟨?wD1, ?yD1⟩) (by assumption) ?rD1
  case hiD1 => (simp only [List.getElem?_toArray, List.getElem?_cons_succ, List.getElem?_cons_zero]; try rfl)
  case wD1 => rfl
  case yD1 => (intro w hSw; (try dsimp only at hSw); go_simp; (try with_reducible rfl))
  (try simp only [Act.put, List.setIfInBounds_toArray, List.set_cons_zero, List.set_cons_succ])
  refine wpAnyH_take (i := 2) (oi := ?oD2) (v := ?vD2) ?hiD2 (by kernel_rfl) (by kernel_rfl) (by kernel_rfl) (fun _ _ _ h => h) (Or.inl ⟨?wD2, ?yD2⟩) (by assumption) ?rD2
  case hiD2 => (simp only [List.getElem?_toArray, List.getElem?_cons_succ, List.getElem?_cons_zero]; try rfl)
  case wD2 => rfl
  case yD2 => (intro w hSw; (try dsimp only at hSw); go_simp; (try with_reducible rfl))
  (try simp only [Act.put, List.setIfInBounds_toArray, List.set_cons_zero, List.set_cons_succ])
  refine wpAnyH_take (i := 3) (oi := ?oD3) (v := ?vD3) ?hiD3 (by kernel_rfl) (by kernel_rfl) (by kernel_rfl) (fun _ _ _ h => h) (Or.inl ⟨?wD3, ?yD3⟩) (by assumption) ?rD3
  case hiD3 => (simp only [List.getElem?_toArray, List.getElem?_cons_succ, List.getElem?_cons_zero]; try rfl)
  case wD3 => rfl
  case yD3 => (intro w hSw; (try dsimp only at hSw); go_simp; (try with_reducible rfl))
  (try simp only [Act.put, List.setIfInBounds_toArray, List.set_cons_zero, List.set_cons_succ])
  refine wpAnyH_take (i := 4) (oi := ?oD4) (v := ?vD4) ?hiD4 (by kernel_rfl) (by kernel_rfl) (by kernel_rfl) (fun _ _ _ h => h) (Or.inl ⟨?wD4, ?yD4⟩) (by assumption) ?rD4
  case hiD4 => (simp only [List.getElem?_toArray, List.getElem?_cons_succ, List.getElem?_cons_zero]; try rfl)
  case wD4 => rfl
  case yD4 => (intro w hSw; (try dsimp only at hSw); go_simp; (try with_reducible rfl))
  (try simp only [Act.put, List.setIfInBounds_toArray, List.set_cons_zero, List.set_cons_succ])
  refine wpAnyH_take (i := 5) (oi := ?oD5) (v := ?vD5) ?hiD5 (by kernel_rfl) (by kernel_rfl) (by kernel_rfl) (fun _ _ _ h => h) (Or.inl ⟨?wD5, ?yD5⟩) (by assumption) ?rD5
  case hiD5 => (simp only [List.getElem?_toArray, List.getElem?_cons_succ, List.getElem?_cons_zero]; try rfl)
  case wD5 => rfl
  case yD5 => (intro w hSw; (try dsimp only at hSw); go_simp; (try with_reducible rfl))
  (try simp only [Act.put, List.setIfInBounds_toArray, List.set_cons_zero, List.set_cons_succ])
  refine wpAnyH_ready (rs := [6]) (by kernel_rfl) (by simp) ?_
  refine AllReadyH.cons (o := ?oD6) ?hiD6 (fun K hK => ?_) AllReadyH.nil
  case hiD6 => (simp only [List.getElem?_toArray, List.getElem?_cons_succ, List.getElem?_cons_zero]; try rfl)
  refine step_appRoom _ _ 107 107 117 (.agg #[.string ByteArray.empty, .int .i64 0]) 2 24 rfl rfl Tryz.underlying107 infoDS g0 i cp (k - i) k _ rfl rfl cur.toList HG0D.out (xs.drop ((i + 1) * 2)) HSRC.out (by omega) (by omega) hcl ?_
  intro w3 hg3 hgr3
  refine hK.out _ _ (trivial) (fun hHeld => ?_)
  clear hK K
  (try simp only [Act.put, List.setIfInBounds_toArray, List.set_cons_zero, List.set_cons_succ])
  refine wpAnyH_take (i := 7) (oi := ?oD7) (v := ?vD7) ?hiD7 (by kernel_rfl) (by kernel_rfl) (by kernel_rfl) (fun _ _ _ h => h) (Or.inl ⟨?wD7, ?yD7⟩) (by assumption) ?rD7
  case hiD7 => (simp only [List.getElem?_toArray, List.getElem?_cons_succ, List.getElem?_cons_zero]; try rfl)
  case wD7 => rfl
  case yD7 => (intro w hSw; (try dsimp only at hSw); go_simp; (try with_reducible rfl))
  (try simp only [Act.put, List.setIfInBounds_toArray, List.set_cons_zero])
  refine wpAnyH_done (by kernel_rfl) ?_ _
  refine NoPanic.normal ?_
  have HG3 := Lib.hid hg3; have HGR3 := Lib.hid hgr3
  have HFT2 : Hid (k * 2 + 2 ≤ (over cur.toList (i * 2) (xs.drop ((i + 1) * 2))).length) := Lib.hid (by rw [over_length HFT.out, hcl]; omega)
  clear hg3 hgr3
  go_wp2_with (refine wpList_clearN (.tmp 31) 107 117 (.string ByteArray.empty) (.int .i64 0) ?_ ?_ Tryz.underlying107 zeroDS rfl rfl rfl g0 (k * 2) (cp - k) ?_ (over cur.toList (i * 2) (xs.drop ((i + 1) * 2))) 117 HG3.out HFT2.out ?_; rfl; rfl; rfl)
  intro w4 hg4 hgr4
  have HG4 := Lib.hid hg4; have HGR4 := Lib.hid hgr4
  clear hg4 hgr4
  go_wp2_with fail
  go_ret
  refine ⟨rfl, ⟨by rw [List.length_append, List.length_take, List.length_drop, HXL.out]; omega, .inr ⟨g0, cp, _, rfl, Nat.zero_le _, HG4.out, by omega, by unfold maxLen; exact hcm, ?_, ?_⟩⟩, ?_⟩
  · rw [List.size_toArray, over_length HFT2.out, over_length HFT.out, hcl]
  · exact del_cells HXL.out hi HTK.out
  · have k2 : Keep (fun k => k = g0) w w3 := ((Keep.refl _ w).drew).grown HGR3.out (fun k hk e => (Option.some.inj e).symm)
    have k3 : Keep (fun k => k = g0) w w4 := k2.grown HGR4.out (fun k hk e => (Option.some.inj e).symm)
    exact ⟨k3.os, k3.tape, k3.output, k3.size, fun k hk hne => k3.block k hk (fun f => hne (by rw [f]))⟩
end Go.Proofs.YtdbgplnjppaimaaGreat
