/- A timer of long whole numbers: New, Tick. -/
import Derived.Test.YtdbgplnjppaimaaGreatTimL
import Derived.Test.YtdbgplnjppaimaaGreatKit6
open Go Go.Proofs Go.RowKit Go.Maps Go.Sort Go.Shelf
namespace Go.Proofs.YtdbgplnjppaimaaGreat

def NewTimL (w : World) (most : Int) (e : Ending) (w' : World) : Prop :=
  ∃ p b, e = .returned (.pointer (some ⟨p, 0, none⟩)) ∧ TimL w' p b 0 most [] (fun _ => 0) ∧ Keep NoF w w' ∧ w.heap.size ≤ p ∧ w.heap.size ≤ b
theorem newTimL_any (most : Int) (w : World) : Calls Tryz.prog 38 #[.int .i64 most] w (NewTimL w most) := by
  have hmm := @run_makeMap Tryz.prog
  have h1 := (MapN.made KNL w).kept (World.grownBy_alloc (w.alloc (.map #[] 0)) (.cells #[.int .i64 most, .map (some w.heap.size)] 80) none) (by simp)
  have h3 := heap_new (w.alloc (.map #[] 0)) (.cells #[.int .i64 most, .map (some w.heap.size)] 80)
  have e3 : (w.alloc (.map #[] 0)).heap.size = w.heap.size + 1 := by simp
  rw [e3] at h3
  have HT : Hid (TimL ((w.alloc (.map #[] 0)).alloc (.cells #[.int .i64 most, .map (some w.heap.size)] 80)) (w.heap.size + 1) w.heap.size 0 most [] (fun _ => 0)) := Lib.hid ⟨h3, h1, by omega, by simp⟩
  have HK := Lib.hid (((Keep.refl NoF w).alloc (.map #[] 0)).alloc (.cells #[.int .i64 most, .map (some w.heap.size)] 80))
  clear h1 h3 e3
  go_enter Tryz.func38, Tryz.ntmps38
  go_wp2_with fail
  go_ret
  exact ⟨_, _, rfl, HT.out, HK.out, by omega, by omega⟩

theorem infoL : (Tryz.prog.info? 2).map (fun i => (i.zero, i.size, i.bytes)) = some (some (.int .i64 0), 1, 8) := by kernel_rfl
def lateL (most : Int) (ks : List Int) (f : Int → Int) : List Int := (srtL ks).filter fun x => decide (most ≤ f x + 1)
def TickPostL (w : World) (p b n : Nat) (most : Int) (ks : List Int) (f : Int → Int) (e : Ending) (w' : World) : Prop :=
  ∃ v, e = .returned v ∧ w'.ownsRow 0 2 1 v (lateL most ks f).length ((lateL most ks f).map (.int .i64)) ∧ (∀ g, v.ownBlock = some g → w.heap.size ≤ g) ∧ TimL w' p b (n + (srtL ks).length) most ks (fun z => f z + 1) ∧ Keep (fun k => k = b) w w'
def midL (f : Int → Int) (l : List Int) : Int → Int := fun z => if z ∈ l then f z + 1 else f z
set_option maxHeartbeats 2000000 in
theorem tickL_any (p b n : Nat) (most : Int) (ks : List Int) (f : Int → Int) (w : World) (h : TimL w p b n most ks f) (hn : n + (srtL ks).length ≤ 100000) :
    Calls Tryz.prog 46 #[.pointer (some ⟨p, 0, none⟩)] w (TickPostL w p b n most ks f) := by
  have hall := allL_any p b n most ks f w h (by omega)
  have hnd := nodup_srtL ks
  have hmem : ∀ x, x ∈ srtL ks ↔ x ∈ ks := fun x => mem_srtL
  have HLATE : Hid (lateL most ks f = (srtL ks).filter fun x => decide (most ≤ f x + 1)) := Lib.hid rfl
  generalize srtL ks = R at hn hall hnd hmem HLATE
  obtain ⟨N, hN⟩ : ∃ N, R.length = N := ⟨_, rfl⟩
  rw [hN] at hn hall
  have hbl := h.lt
  have H := Lib.hid h; have HN := Lib.hid hN; have HND := Lib.hid hnd; have HMEM := Lib.hid hmem; have HALL := Lib.hid hall
  have HOK : Hid (∀ x ∈ ks, (Lit.int .i64 x).wf = true) := Lib.hid h.m.1
  have hpost : ∀ e w', (∃ v, e = .returned v ∧ w'.ownsRow 0 2 1 v (R.filter fun x => decide (most ≤ f x + 1)).length ((R.filter fun x => decide (most ≤ f x + 1)).map (.int .i64)) ∧ (∀ g, v.ownBlock = some g → w.heap.size ≤ g) ∧ TimL w' p b (n + N) most ks (fun z => f z + 1) ∧ Keep (fun k => k = b) w w') → TickPostL w p b n most ks f e w' := by
    rintro e w' ⟨v, h1, h2, h3, h4, h5⟩
    refine ⟨v, h1, by rw [HLATE.out]; exact h2, h3, ?_, h5⟩
    have e1 : (srtL ks).length = N := by
      rw [← hN]
      exact ((List.perm_ext_iff_of_nodup (nodup_srtL ks) hnd).2 (fun x => by rw [mem_srtL, hmem])).length_eq
    rw [e1]
    exact h4
  have HPOST := Lib.hid hpost
  clear h hN hnd hmem hall hpost HLATE
  refine Calls.mono ?_ HPOST.out
  go_enter Tryz.func46, Tryz.ntmps46
  go_wp2_with fail
  refine HALL.out.mono ?_
  rintro e w1 ⟨v, rfl, hrow, _, hk1⟩
  obtain ⟨aS, cS, rfl⟩ := row_slice hrow
  have hSL := row_slG HN.out hrow
  have HBK : Hid (∀ a, aS = some a → ¬ (fun k => k = b) a.block) := Lib.hid fun a ha f => by
    have h1 := row_fresh hrow _ (row_own hrow ha).1
    have h2 : a.block = b := f
    omega
  have HSL := Lib.hid hSL; have K1 := Lib.hid hk1
  have HT1 := Lib.hid (H.out.keep hk1 (fun f => f) (fun f => f))
  have hs1 := hk1.size
  clear hSL hk1 hrow HALL
  go_wp2_with fail
  go_loopw [3, 9] (fun lv iv wr => ∃ (j M : Nat) (al : Option Addr) (cl : Nat), j ≤ N ∧ M ≤ j ∧ iv = .int .i64 j ∧ lv = .slice al M cl ∧ ((R.take j).filter fun x => decide (most ≤ f x + 1)).length = M ∧ wr.ownsRow 0 2 1 (.slice al M cl) M (((R.take j).filter fun x => decide (most ≤ f x + 1)).map (.int .i64)) ∧ (∀ g, (Value.slice al M cl).ownBlock = some g → w1.heap.size ≤ g) ∧ TimL wr p b (n + j) most ks (midL f (R.take j)) ∧ Keep (fun k => k = b) w1 wr) (fun _ iv _ => N - (intOf iv).toNat)
  case atStart => exact ⟨0, 0, none, 0, Nat.zero_le _, Nat.le_refl _, rfl, rfl, by simp, World.ownsRow_nil _ _ _ _, nofun, HT1.out.congr (fun _ => Iff.rfl) (fun x _ => by simp [midL]), Keep.refl _ _⟩
  case round =>
    obtain ⟨j, M, al, cl, hj, hMj, rfl, rfl, hfl, hO, hnew, hT, hk⟩ := hrel
    have HFL := Lib.hid hfl; have HO := Lib.hid hO; have HNW := Lib.hid hnew; have HT := Lib.hid hT; have HK := Lib.hid hk
    clear hfl hO hnew hT hk
    by_cases hlt : j < N
    · have hlt2 : (j : Int) < N := by omega
      have hlt3 : decide (N ≤ j) = false := by simp; omega
      have hjR : j < R.length := by rw [HN.out]; exact hlt
      obtain ⟨gr, or, hao, dr⟩ := (HSL.out.keep HK.out HBK.out).2.2 j hjR
      have hnot : R[j] ∉ R.take j := by
        intro e
        obtain ⟨i, hi, e⟩ := List.mem_iff_getElem.1 e
        rw [List.length_take] at hi
        rw [List.getElem_take] at e
        have := (List.nodup_iff_pairwise_ne.1 HND.out)
        exact (List.pairwise_iff_getElem.1 this) i j (by omega) hjR (by omega) e
      have HTK : Hid (R.take (j + 1) = R.take j ++ [R[j]]) := Lib.hid (List.take_succ_eq_append_getElem hjR)
      have hxk : R[j] ∈ ks := (HMEM.out _).1 (List.getElem_mem hjR)
      generalize R[j] = x at dr hnot HTK hxk
      subst hao
      have hok := HOK.out x hxk
      have hmx : midL f (R.take j) x = f x := if_neg hnot
      have hrg := HT.out.rng x hxk
      rw [hmx] at hrg
      have l1 : (Instr.lookup 78 (.map (some b)) (.int .i64 x) false).run Tryz.prog wr = _ := HT.out.m.look Tryz.underlying78 hok
      rw [if_pos hxk, hmx] at l1
      obtain ⟨a, ha⟩ : ∃ a, f x = a := ⟨_, rfl⟩
      rw [ha] at l1 hrg
      have c1 := cell_of_heap HT.out.row 1
      simp at c1
      have hwf : (Lit.int .i64 (a + 1)).wf = true := WalkArith.wf_i64 (by omega)
      have HX := Lib.hid hxk; have HOKX := Lib.hid hok; have HWF := Lib.hid hwf; have HFX := Lib.hid ha; have HNOT := Lib.hid hnot
      clear hnot hxk hok hwf hmx ha
      go_wp2_with (at_mapUpdate; refine HT.out.m.wpPut Tryz.underlying78 (by unfold maxLen; omega) HOKX.out (a + 1) HWF.out rfl rfl rfl rfl rfl ?_; intro w2 hM hg)
      have hp : p ≠ b := HT.out.ne
      have hT2 : TimL w2 p b (n + (j + 1)) most ks (midL f (R.take (j + 1))) := by
        have hT3 : TimL w2 p b (n + (j + 1)) most (x :: ks) (fun z => if z = x then a + 1 else midL f (R.take j) z) := ⟨by rw [hg.block p (lt_of_heap HT.out.row) (by simpa using hp)]; exact HT.out.row, hM, hp, fun z hz => by
          show 0 ≤ (if z = x then a + 1 else midL f (R.take j) z) ∧ (if z = x then a + 1 else midL f (R.take j) z) ≤ _
          by_cases e : z = x
          · rw [if_pos e]; omega
          · rw [if_neg e]
            rcases List.mem_cons.1 hz with e2 | hz
            · exact absurd e2 e
            · have := HT.out.rng z hz; omega⟩
        refine hT3.congr (fun z => ⟨fun hz => List.mem_cons_of_mem _ hz, fun hz => ?_⟩) (fun z _ => ?_)
        · rcases List.mem_cons.1 hz with rfl | hz
          · exact HX.out
          · exact hz
        · show midL f (R.take (j + 1)) z = if z = x then a + 1 else midL f (R.take j) z
          unfold midL
          rw [HTK.out]
          by_cases e : z = x
          · subst e; simp [HFX.out]
          · simp [e]
      have HT2 := Lib.hid hT2
      have hk2 : Keep (fun k => k = b) wr w2 := (Keep.refl (fun k => k = b) wr).grown hg (fun k _ e => (Option.some.inj e).symm)
      have HO2 : Hid (w2.ownsRow 0 2 1 (.slice al M cl) M (((R.take j).filter fun x => decide (most ≤ f x + 1)).map (.int .i64))) := Lib.hid (row_keep HO.out hk2 (fun g hg' f => by have := HNW.out g hg'; subst f; omega))
      have HK2 := Lib.hid (HK.out.trans' hk2)
      have l2 : ∀ q, (Instr.lookup 78 (.map (some b)) (.int .i64 x) false).run Tryz.prog (w2.drewN q) = _ := fun q => (hT2.keep ((Keep.refl NoF w2).drewN q) (fun f => f) (fun f => f)).m.look Tryz.underlying78 HOKX.out
      have e2 : midL f (R.take (j + 1)) x = a + 1 := by
        unfold midL
        rw [HTK.out, if_pos (by simp), HFX.out]
      simp only [if_pos HX.out, e2] at l2
      have d0 := cell_of_heap hT2.row 0
      have d1 := cell_of_heap hT2.row 1
      simp at d0 d1
      clear hM hg hT2 hk2 hp l1 c1 dr e2
      by_cases hl : most ≤ a + 1
      · have hl2 : decide (most ≤ a + 1) = true := by simp [hl]
        have HF2 : Hid ((R.take (j + 1)).filter (fun x => decide (most ≤ f x + 1)) = (R.take j).filter (fun x => decide (most ≤ f x + 1)) ++ [x]) := Lib.hid (by rw [HTK.out, List.filter_append]; simp [HFX.out, hl])
        go_wp2_with fail
        go_quiet (fail)
        go_upto_region 7 with fail
        refine wp_named (F := NoF) (wq := w2) ((Keep.refl NoF w2).drewN _) ?_
        intro wz hz
        have HZ := Lib.hid hz
        clear hz
        go_wp2_with (at_builtin; refine wpList_app 45 45 2 (.int .i64 0) 1 8 Tryz.underlying45 infoL rfl (by decide) (by decide) rfl rfl rfl rfl ((keepR HO2.out HZ.out).alloc _) (Src.one Tryz.underlying45 (heap_new wz _) rfl 1) (by omega) ?_)
        intro a9 c9 w9 hown hgr hfr
        have hO9 : w9.ownsRow 0 2 1 (.slice a9 (M + 1) c9) (M + 1) (((R.take (j + 1)).filter fun x => decide (most ≤ f x + 1)).map (.int .i64)) := by rw [HF2.out, List.map_append]; exact hown
        have hk9 : Keep (fun k => k = b) w1 w9 := ((HK2.out.trans' (HZ.out.mono (fun _ _ f => f.elim))).alloc _).grown hgr (fun k hk e => by have := HNW.out k e; omega)
        have hk8 : Keep (fun g => (Value.slice al M cl).ownBlock = some g) w2 w9 := ((HZ.out.mono (fun _ _ f => f.elim)).alloc _).grown hgr (fun k _ e => e)
        have hT9 := HT2.out.keep hk8 (fun e => by have := HNW.out p e; omega) (fun e => by have := HNW.out b e; omega)
        have hn9 : ∀ g, (Value.slice a9 (M + 1) c9).ownBlock = some g → w1.heap.size ≤ g := fun g hg => by
          rcases hfr with f | f
          · exact HNW.out g (by rw [← f]; exact hg)
          · rw [f] at hg; injection hg with hg; have := (HK2.out.trans' (HZ.out.mono (H := fun k => k = b) (fun _ _ f => f.elim))).size; omega
        have HO9 := Lib.hid hO9; have HK9 := Lib.hid hk9; have HN9 := Lib.hid hn9; have HT9 := Lib.hid hT9
        clear hown hgr hfr hO9 hk9 hk8 hn9 hT9
        go_wp2_with fail
        go_roundw
        case rel => exact ⟨j + 1, M + 1, a9, c9, by omega, by omega, by go_num, rfl, by rw [HF2.out, List.length_append, HFL.out]; rfl, HO9.out, HN9.out, HT9.out, HK9.out⟩
        case measure => simp [intOf]; omega
      · have hl2 : decide (most ≤ a + 1) = false := by simp [hl]
        have HF2 : Hid ((R.take (j + 1)).filter (fun x => decide (most ≤ f x + 1)) = (R.take j).filter (fun x => decide (most ≤ f x + 1))) := Lib.hid (by rw [HTK.out, List.filter_append]; simp [HFX.out, hl])
        go_wp2_with fail
        go_quiet (fail)
        go_wp2_with fail
        go_roundw
        case rel => exact ⟨j + 1, M, al, cl, by omega, by omega, by go_num, rfl, by rw [HF2.out, HFL.out], by rw [HF2.out]; exact keepR HO2.out ((Keep.refl NoF w2).drewN _), HNW.out, HT2.out.keep ((Keep.refl NoF w2).drewN _) (fun f => f) (fun f => f), HK2.out.drewN _⟩
        case measure => simp [intOf]; omega
    · have hlt2 : ¬ (j : Int) < N := by omega
      obtain rfl : j = N := by omega
      have htk : R.take j = R := List.take_of_length_le (by rw [HN.out]; exact Nat.le_refl _)
      have hfin := HO.out
      have hfl := HFL.out
      rw [htk] at hfin hfl
      rw [← hfl] at hfin
      have HTF : Hid (TimL wr p b (n + j) most ks (fun z => f z + 1)) := Lib.hid (HT.out.congr (fun _ => Iff.rfl) (fun z hz => by
        unfold midL
        rw [htk, if_pos ((HMEM.out z).2 hz)]))
      have HFIN := Lib.hid hfin; have HFL2 := Lib.hid hfl
      clear hfin htk hfl
      go_wp2_with fail
      go_ret
      refine ⟨_, rfl, ?_, fun g hg => Nat.le_trans hs1 (HNW.out g hg), HTF.out, (K1.out.trans HK.out (fun _ _ f => f.elim) (fun _ _ f => f))⟩
      rw [← HFL2.out]
      exact HFIN.out
end Go.Proofs.YtdbgplnjppaimaaGreat
