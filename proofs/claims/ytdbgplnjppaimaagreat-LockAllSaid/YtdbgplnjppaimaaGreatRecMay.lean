/- Which records may be: kind's Record, and the document's. -/
import Derived.Test.YtdbgplnjppaimaaGreatRecFn
import Derived.Deep.CutRange
open Go Go.RowKit
namespace Go.Proofs.YtdbgplnjppaimaaGreat

theorem RecAt.keepD {w w' : World} {r : RecV} {a4 : Option Addr} {c4 : Nat} {a5 : Option Addr} {c5 : Nat} (h : RecAt w r a4 c4 a5 c5) (hk : Keep NoF w w') : RecAt w' r a4 c4 a5 c5 := h.keep hk

def idOk (k i : Int) : Bool := if k = 2 then tidB i else decide (i = 0)
def yesOk (k : Int) (y : Bool) : Bool := if k = 5 then true else !y
theorem recB_eq (k t i : Int) (y : Bool) (ps : List Int) (us : List PutV) (hk : 1 ≤ k ∧ k ≤ 9) (ht : tidB t = true) :
    recB ⟨k, t, i, y, ps, us⟩ = (idOk k i && yesOk k y && risingB ps (leastOf k) (mostOf k) && decide (us.length ≤ putsOf k) && putsB us) := by
  unfold recB idOk yesOk
  simp only [ht, decide_eq_true hk.1, decide_eq_true hk.2, Bool.true_and, Bool.and_true]

set_option maxHeartbeats 2000000 in
theorem krecord_any (r : RecV) (a4 : Option Addr) (c4 : Nat) (a5 : Option Addr) (c5 : Nat) (w : World) (h : RecAt w r a4 c4 a5 c5) :
    Calls Tryz.prog 69 #[recVal r a4 c4 a5 c5] w fun e w' => e = .returned (.bool (recB r)) ∧ Keep NoF w w' := by
  have H := Lib.hid h
  have bk := h.kind
  have bt := h.tid
  have bi := h.id
  clear h
  obtain ⟨k, t, i, y, ps, us⟩ := r
  unfold recVal
  unfold InI64 at bk bt bi
  simp only at bk bt bi ⊢
  by_cases h1 : k < 1
  · have e : recB ⟨k, t, i, y, ps, us⟩ = false := by
      rw [Bool.eq_false_iff]; intro h; have := ((recB_iff _).1 h).1; simp only at this; omega
    rw [e]
    clear e
    go_enter Tryz.func69, Tryz.ntmps69
    go_wp2_with fail
    go_ret
    exact ⟨rfl, keep_alloc _ _⟩
  · have h2 : 1 ≤ k := by omega
    clear h1
    by_cases h9 : 9 < k
    · have e : recB ⟨k, t, i, y, ps, us⟩ = false := by
        rw [Bool.eq_false_iff]; intro h; have := ((recB_iff _).1 h).1; simp only at this; omega
      rw [e]
      clear e
      go_enter Tryz.func69, Tryz.ntmps69
      go_wp2_with fail
      go_ret
      exact ⟨rfl, keep_alloc _ _⟩
    · have h3 : k ≤ 9 := by omega
      clear h9
      by_cases ht : tidB t = true
      · rw [recB_eq k t i y ps us ⟨h2, h3⟩ ht]
        have hc := fun W => ktid_any t W bt
        rw [ht] at hc
        have HC := Lib.hid hc
        clear hc ht
        go_enter Tryz.func69, Tryz.ntmps69
        go_wp2_with fail
        refine (HC.out _).mono ?_
        rintro e w1 ⟨rfl, rfl⟩
        go_wp2_with fail
        go_region
        have hkk : k = 1 ∨ k = 2 ∨ k = 3 ∨ k = 4 ∨ k = 5 ∨ k = 6 ∨ k = 7 ∨ k = 8 ∨ k = 9 := by omega
        rcases hkk with rfl | rfl | rfl | rfl | rfl | rfl | rfl | rfl | rfl
        · obtain ⟨vi, hvi⟩ : ∃ v, ((i == 0)) = v := ⟨_, rfl⟩
          obtain ⟨vr, hvr⟩ : ∃ v, risingB ps 0 0 = v := ⟨_, rfl⟩
          obtain ⟨vp, hvp⟩ : ∃ v, putsB us = v := ⟨_, rfl⟩
          have HRES : Hid ((idOk 1 i && yesOk 1 y && risingB ps (leastOf 1) (mostOf 1) && decide (us.length ≤ putsOf 1) && putsB us) = (vi && !y && vr && decide (us.length ≤ 0) && vp)) := by
            have e1 : idOk 1 i = vi := by rw [← hvi]; rfl
            have e2 : yesOk 1 y = !y := rfl
            have e3 : risingB ps (leastOf 1) (mostOf 1) = vr := by rw [← hvr]; rfl
            have e4 : decide (us.length ≤ putsOf 1) = decide (us.length ≤ 0) := rfl
            rw [e1, e2, e3, e4, hvp]; exact Lib.hid rfl
          have hrc := fun W hk => krising_any a4 c4 ps 0 0 W (H.out.parts.keep (w' := W) hk (fun _ _ f => f)) (by omega)
          rw [hvr] at hrc
          have HRC := Lib.hid hrc
          clear hrc hvr
          go_wp2_with fail
          refine (containsbad_any a5 c5 us _ (H.out.puts.keep ((keep_alloc _ _).drew) (fun _ _ f => f))).mono ?_
          rintro e w2 ⟨rfl, hk2⟩
          rw [hvp]
          have cP : w2.cell? ⟨w.heap.size, 4, none⟩ = some (.slice a4 ps.length c4) := hk2.cell' (show World.cell? _ _ = _ from by rw [World.cell?_drew, cell_of_heap (heap_new _ _)]; rfl) (fun f => f)
          have cU : w2.cell? ⟨w.heap.size, 5, none⟩ = some (.slice a5 us.length c5) := hk2.cell' (show World.cell? _ _ = _ from by rw [World.cell?_drew, cell_of_heap (heap_new _ _)]; rfl) (fun f => f)
          have K2 : Hid (Keep NoF w w2) := Lib.hid (((keep_alloc _ _).drew).trans' hk2)
          clear hk2 hvp
          cases vi
          · go_wp2_with fail
            go_ret
            exact ⟨by rw [HRES.out]; rfl, K2.out⟩
          · cases y
            · cases vr
              · go_wp2_with fail
                refine (HRC.out _ K2.out).mono ?_
                rintro e w3 ⟨rfl, rfl⟩
                go_wp2_with fail
                go_ret
                exact ⟨by rw [HRES.out]; rfl, K2.out⟩
              · go_wp2_with fail
                refine (HRC.out _ K2.out).mono ?_
                rintro e w3 ⟨rfl, rfl⟩
                by_cases hl : us.length ≤ 0
                · have hres := HRES.out
                  rw [decide_eq_true hl] at hres
                  have HRES2 := Lib.hid hres
                  have hl1 : us.length = 0 := by omega
                  clear hl hres HRES
                  cases vp
                  all_goals
                    go_wp2_with fail
                    go_ret
                    exact ⟨by rw [HRES2.out]; rfl, K2.out⟩
                · have hres := HRES.out
                  rw [decide_eq_false hl] at hres
                  have HRES2 := Lib.hid hres
                  have hl1 : (0 : Int) < us.length := by omega
                  have hl2 : ¬ us = [] := by intro h; subst h; simp at hl1
                  clear hl hres HRES
                  go_wp2_with fail
                  go_ret
                  exact ⟨by rw [HRES2.out]; rfl, K2.out⟩
            · go_wp2_with fail
              go_ret
              exact ⟨by rw [HRES.out]; rfl, K2.out⟩
        · obtain ⟨vi, hvi⟩ : ∃ v, (tidB i) = v := ⟨_, rfl⟩
          obtain ⟨vr, hvr⟩ : ∃ v, risingB ps 0 0 = v := ⟨_, rfl⟩
          obtain ⟨vp, hvp⟩ : ∃ v, putsB us = v := ⟨_, rfl⟩
          have HRES : Hid ((idOk 2 i && yesOk 2 y && risingB ps (leastOf 2) (mostOf 2) && decide (us.length ≤ putsOf 2) && putsB us) = (vi && !y && vr && decide (us.length ≤ 0) && vp)) := by
            have e1 : idOk 2 i = vi := by rw [← hvi]; rfl
            have e2 : yesOk 2 y = !y := rfl
            have e3 : risingB ps (leastOf 2) (mostOf 2) = vr := by rw [← hvr]; rfl
            have e4 : decide (us.length ≤ putsOf 2) = decide (us.length ≤ 0) := rfl
            rw [e1, e2, e3, e4, hvp]; exact Lib.hid rfl
          have hrc := fun W hk => krising_any a4 c4 ps 0 0 W (H.out.parts.keep (w' := W) hk (fun _ _ f => f)) (by omega)
          rw [hvr] at hrc
          have HRC := Lib.hid hrc
          have HVI := Lib.hid hvi
          clear hrc hvr hvi
          go_wp2_with fail
          refine (ktid_any i _ bi).mono ?_
          rintro e w1 ⟨rfl, rfl⟩
          rw [HVI.out]
          go_wp2_with fail
          refine (containsbad_any a5 c5 us _ (H.out.puts.keep ((keep_alloc _ _).drew) (fun _ _ f => f))).mono ?_
          rintro e w2 ⟨rfl, hk2⟩
          rw [hvp]
          have cP : w2.cell? ⟨w.heap.size, 4, none⟩ = some (.slice a4 ps.length c4) := hk2.cell' (show World.cell? _ _ = _ from by rw [World.cell?_drew, cell_of_heap (heap_new _ _)]; rfl) (fun f => f)
          have cU : w2.cell? ⟨w.heap.size, 5, none⟩ = some (.slice a5 us.length c5) := hk2.cell' (show World.cell? _ _ = _ from by rw [World.cell?_drew, cell_of_heap (heap_new _ _)]; rfl) (fun f => f)
          have K2 : Hid (Keep NoF w w2) := Lib.hid (((keep_alloc _ _).drew).trans' hk2)
          clear hk2 hvp
          cases vi
          · go_wp2_with fail
            go_ret
            exact ⟨by rw [HRES.out]; rfl, K2.out⟩
          · cases y
            · cases vr
              · go_wp2_with fail
                refine (HRC.out _ K2.out).mono ?_
                rintro e w3 ⟨rfl, rfl⟩
                go_wp2_with fail
                go_ret
                exact ⟨by rw [HRES.out]; rfl, K2.out⟩
              · go_wp2_with fail
                refine (HRC.out _ K2.out).mono ?_
                rintro e w3 ⟨rfl, rfl⟩
                by_cases hl : us.length ≤ 0
                · have hres := HRES.out
                  rw [decide_eq_true hl] at hres
                  have HRES2 := Lib.hid hres
                  have hl1 : us.length = 0 := by omega
                  clear hl hres HRES
                  cases vp
                  all_goals
                    go_wp2_with fail
                    go_ret
                    exact ⟨by rw [HRES2.out]; rfl, K2.out⟩
                · have hres := HRES.out
                  rw [decide_eq_false hl] at hres
                  have HRES2 := Lib.hid hres
                  have hl1 : (0 : Int) < us.length := by omega
                  have hl2 : ¬ us = [] := by intro h; subst h; simp at hl1
                  clear hl hres HRES
                  go_wp2_with fail
                  go_ret
                  exact ⟨by rw [HRES2.out]; rfl, K2.out⟩
            · go_wp2_with fail
              go_ret
              exact ⟨by rw [HRES.out]; rfl, K2.out⟩
        · obtain ⟨vi, hvi⟩ : ∃ v, ((i == 0)) = v := ⟨_, rfl⟩
          obtain ⟨vr, hvr⟩ : ∃ v, risingB ps 0 0 = v := ⟨_, rfl⟩
          obtain ⟨vp, hvp⟩ : ∃ v, putsB us = v := ⟨_, rfl⟩
          have HRES : Hid ((idOk 3 i && yesOk 3 y && risingB ps (leastOf 3) (mostOf 3) && decide (us.length ≤ putsOf 3) && putsB us) = (vi && !y && vr && decide (us.length ≤ 0) && vp)) := by
            have e1 : idOk 3 i = vi := by rw [← hvi]; rfl
            have e2 : yesOk 3 y = !y := rfl
            have e3 : risingB ps (leastOf 3) (mostOf 3) = vr := by rw [← hvr]; rfl
            have e4 : decide (us.length ≤ putsOf 3) = decide (us.length ≤ 0) := rfl
            rw [e1, e2, e3, e4, hvp]; exact Lib.hid rfl
          have hrc := fun W hk => krising_any a4 c4 ps 0 0 W (H.out.parts.keep (w' := W) hk (fun _ _ f => f)) (by omega)
          rw [hvr] at hrc
          have HRC := Lib.hid hrc
          clear hrc hvr
          go_wp2_with fail
          refine (containsbad_any a5 c5 us _ (H.out.puts.keep ((keep_alloc _ _).drew) (fun _ _ f => f))).mono ?_
          rintro e w2 ⟨rfl, hk2⟩
          rw [hvp]
          have cP : w2.cell? ⟨w.heap.size, 4, none⟩ = some (.slice a4 ps.length c4) := hk2.cell' (show World.cell? _ _ = _ from by rw [World.cell?_drew, cell_of_heap (heap_new _ _)]; rfl) (fun f => f)
          have cU : w2.cell? ⟨w.heap.size, 5, none⟩ = some (.slice a5 us.length c5) := hk2.cell' (show World.cell? _ _ = _ from by rw [World.cell?_drew, cell_of_heap (heap_new _ _)]; rfl) (fun f => f)
          have K2 : Hid (Keep NoF w w2) := Lib.hid (((keep_alloc _ _).drew).trans' hk2)
          clear hk2 hvp
          cases vi
          · go_wp2_with fail
            go_ret
            exact ⟨by rw [HRES.out]; rfl, K2.out⟩
          · cases y
            · cases vr
              · go_wp2_with fail
                refine (HRC.out _ K2.out).mono ?_
                rintro e w3 ⟨rfl, rfl⟩
                go_wp2_with fail
                go_ret
                exact ⟨by rw [HRES.out]; rfl, K2.out⟩
              · go_wp2_with fail
                refine (HRC.out _ K2.out).mono ?_
                rintro e w3 ⟨rfl, rfl⟩
                by_cases hl : us.length ≤ 0
                · have hres := HRES.out
                  rw [decide_eq_true hl] at hres
                  have HRES2 := Lib.hid hres
                  have hl1 : us.length = 0 := by omega
                  clear hl hres HRES
                  cases vp
                  all_goals
                    go_wp2_with fail
                    go_ret
                    exact ⟨by rw [HRES2.out]; rfl, K2.out⟩
                · have hres := HRES.out
                  rw [decide_eq_false hl] at hres
                  have HRES2 := Lib.hid hres
                  have hl1 : (0 : Int) < us.length := by omega
                  have hl2 : ¬ us = [] := by intro h; subst h; simp at hl1
                  clear hl hres HRES
                  go_wp2_with fail
                  go_ret
                  exact ⟨by rw [HRES2.out]; rfl, K2.out⟩
            · go_wp2_with fail
              go_ret
              exact ⟨by rw [HRES.out]; rfl, K2.out⟩
        · obtain ⟨vi, hvi⟩ : ∃ v, ((i == 0)) = v := ⟨_, rfl⟩
          obtain ⟨vr, hvr⟩ : ∃ v, risingB ps 0 0 = v := ⟨_, rfl⟩
          obtain ⟨vp, hvp⟩ : ∃ v, putsB us = v := ⟨_, rfl⟩
          have HRES : Hid ((idOk 4 i && yesOk 4 y && risingB ps (leastOf 4) (mostOf 4) && decide (us.length ≤ putsOf 4) && putsB us) = (vi && !y && vr && decide (us.length ≤ 10) && vp)) := by
            have e1 : idOk 4 i = vi := by rw [← hvi]; rfl
            have e2 : yesOk 4 y = !y := rfl
            have e3 : risingB ps (leastOf 4) (mostOf 4) = vr := by rw [← hvr]; rfl
            have e4 : decide (us.length ≤ putsOf 4) = decide (us.length ≤ 10) := rfl
            rw [e1, e2, e3, e4, hvp]; exact Lib.hid rfl
          have hrc := fun W hk => krising_any a4 c4 ps 0 0 W (H.out.parts.keep (w' := W) hk (fun _ _ f => f)) (by omega)
          rw [hvr] at hrc
          have HRC := Lib.hid hrc
          clear hrc hvr
          go_wp2_with fail
          refine (containsbad_any a5 c5 us _ (H.out.puts.keep ((keep_alloc _ _).drew) (fun _ _ f => f))).mono ?_
          rintro e w2 ⟨rfl, hk2⟩
          rw [hvp]
          have cP : w2.cell? ⟨w.heap.size, 4, none⟩ = some (.slice a4 ps.length c4) := hk2.cell' (show World.cell? _ _ = _ from by rw [World.cell?_drew, cell_of_heap (heap_new _ _)]; rfl) (fun f => f)
          have cU : w2.cell? ⟨w.heap.size, 5, none⟩ = some (.slice a5 us.length c5) := hk2.cell' (show World.cell? _ _ = _ from by rw [World.cell?_drew, cell_of_heap (heap_new _ _)]; rfl) (fun f => f)
          have K2 : Hid (Keep NoF w w2) := Lib.hid (((keep_alloc _ _).drew).trans' hk2)
          clear hk2 hvp
          cases vi
          · go_wp2_with fail
            go_ret
            exact ⟨by rw [HRES.out]; rfl, K2.out⟩
          · cases y
            · cases vr
              · go_wp2_with fail
                refine (HRC.out _ K2.out).mono ?_
                rintro e w3 ⟨rfl, rfl⟩
                go_wp2_with fail
                go_ret
                exact ⟨by rw [HRES.out]; rfl, K2.out⟩
              · go_wp2_with fail
                refine (HRC.out _ K2.out).mono ?_
                rintro e w3 ⟨rfl, rfl⟩
                by_cases hl : us.length ≤ 10
                · have hres := HRES.out
                  rw [decide_eq_true hl] at hres
                  have HRES2 := Lib.hid hres
                  have hl1 : (us.length : Int) ≤ 10 := by omega
                  clear hl hres HRES
                  cases vp
                  all_goals
                    go_wp2_with fail
                    go_ret
                    exact ⟨by rw [HRES2.out]; rfl, K2.out⟩
                · have hres := HRES.out
                  rw [decide_eq_false hl] at hres
                  have HRES2 := Lib.hid hres
                  have hl1 : (10 : Int) < us.length := by omega
                  skip
                  clear hl hres HRES
                  go_wp2_with fail
                  go_ret
                  exact ⟨by rw [HRES2.out]; rfl, K2.out⟩
            · go_wp2_with fail
              go_ret
              exact ⟨by rw [HRES.out]; rfl, K2.out⟩
        · obtain ⟨vi, hvi⟩ : ∃ v, ((i == 0)) = v := ⟨_, rfl⟩
          obtain ⟨vr, hvr⟩ : ∃ v, risingB ps 0 0 = v := ⟨_, rfl⟩
          obtain ⟨vp, hvp⟩ : ∃ v, putsB us = v := ⟨_, rfl⟩
          have HRES : Hid ((idOk 5 i && yesOk 5 y && risingB ps (leastOf 5) (mostOf 5) && decide (us.length ≤ putsOf 5) && putsB us) = (vi && true && vr && decide (us.length ≤ 0) && vp)) := by
            have e1 : idOk 5 i = vi := by rw [← hvi]; rfl
            have e2 : yesOk 5 y = true := rfl
            have e3 : risingB ps (leastOf 5) (mostOf 5) = vr := by rw [← hvr]; rfl
            have e4 : decide (us.length ≤ putsOf 5) = decide (us.length ≤ 0) := rfl
            rw [e1, e2, e3, e4, hvp]; exact Lib.hid rfl
          have hrc := fun W hk => krising_any a4 c4 ps 0 0 W (H.out.parts.keep (w' := W) hk (fun _ _ f => f)) (by omega)
          rw [hvr] at hrc
          have HRC := Lib.hid hrc
          clear hrc hvr
          go_wp2_with fail
          refine (containsbad_any a5 c5 us _ (H.out.puts.keep ((keep_alloc _ _).drew) (fun _ _ f => f))).mono ?_
          rintro e w2 ⟨rfl, hk2⟩
          rw [hvp]
          have cP : w2.cell? ⟨w.heap.size, 4, none⟩ = some (.slice a4 ps.length c4) := hk2.cell' (show World.cell? _ _ = _ from by rw [World.cell?_drew, cell_of_heap (heap_new _ _)]; rfl) (fun f => f)
          have cU : w2.cell? ⟨w.heap.size, 5, none⟩ = some (.slice a5 us.length c5) := hk2.cell' (show World.cell? _ _ = _ from by rw [World.cell?_drew, cell_of_heap (heap_new _ _)]; rfl) (fun f => f)
          have K2 : Hid (Keep NoF w w2) := Lib.hid (((keep_alloc _ _).drew).trans' hk2)
          clear hk2 hvp
          cases vi
          · go_wp2_with fail
            go_ret
            exact ⟨by rw [HRES.out]; rfl, K2.out⟩
          · cases vr
            · go_wp2_with fail
              refine (HRC.out _ K2.out).mono ?_
              rintro e w3 ⟨rfl, rfl⟩
              go_wp2_with fail
              go_ret
              exact ⟨by rw [HRES.out]; rfl, K2.out⟩
            · go_wp2_with fail
              refine (HRC.out _ K2.out).mono ?_
              rintro e w3 ⟨rfl, rfl⟩
              by_cases hl : us.length ≤ 0
              · have hres := HRES.out
                rw [decide_eq_true hl] at hres
                have HRES2 := Lib.hid hres
                have hl1 : us.length = 0 := by omega
                clear hl hres HRES
                cases vp
                all_goals
                  go_wp2_with fail
                  go_ret
                  exact ⟨by rw [HRES2.out]; rfl, K2.out⟩
              · have hres := HRES.out
                rw [decide_eq_false hl] at hres
                have HRES2 := Lib.hid hres
                have hl1 : (0 : Int) < us.length := by omega
                have hl2 : ¬ us = [] := by intro h; subst h; simp at hl1
                clear hl hres HRES
                go_wp2_with fail
                go_ret
                exact ⟨by rw [HRES2.out]; rfl, K2.out⟩
        · obtain ⟨vi, hvi⟩ : ∃ v, ((i == 0)) = v := ⟨_, rfl⟩
          obtain ⟨vr, hvr⟩ : ∃ v, risingB ps 1 7 = v := ⟨_, rfl⟩
          obtain ⟨vp, hvp⟩ : ∃ v, putsB us = v := ⟨_, rfl⟩
          have HRES : Hid ((idOk 6 i && yesOk 6 y && risingB ps (leastOf 6) (mostOf 6) && decide (us.length ≤ putsOf 6) && putsB us) = (vi && !y && vr && decide (us.length ≤ 0) && vp)) := by
            have e1 : idOk 6 i = vi := by rw [← hvi]; rfl
            have e2 : yesOk 6 y = !y := rfl
            have e3 : risingB ps (leastOf 6) (mostOf 6) = vr := by rw [← hvr]; rfl
            have e4 : decide (us.length ≤ putsOf 6) = decide (us.length ≤ 0) := rfl
            rw [e1, e2, e3, e4, hvp]; exact Lib.hid rfl
          have hrc := fun W hk => krising_any a4 c4 ps 1 7 W (H.out.parts.keep (w' := W) hk (fun _ _ f => f)) (by omega)
          rw [hvr] at hrc
          have HRC := Lib.hid hrc
          clear hrc hvr
          go_wp2_with fail
          refine (containsbad_any a5 c5 us _ (H.out.puts.keep ((keep_alloc _ _).drew) (fun _ _ f => f))).mono ?_
          rintro e w2 ⟨rfl, hk2⟩
          rw [hvp]
          have cP : w2.cell? ⟨w.heap.size, 4, none⟩ = some (.slice a4 ps.length c4) := hk2.cell' (show World.cell? _ _ = _ from by rw [World.cell?_drew, cell_of_heap (heap_new _ _)]; rfl) (fun f => f)
          have cU : w2.cell? ⟨w.heap.size, 5, none⟩ = some (.slice a5 us.length c5) := hk2.cell' (show World.cell? _ _ = _ from by rw [World.cell?_drew, cell_of_heap (heap_new _ _)]; rfl) (fun f => f)
          have K2 : Hid (Keep NoF w w2) := Lib.hid (((keep_alloc _ _).drew).trans' hk2)
          clear hk2 hvp
          cases vi
          · go_wp2_with fail
            go_ret
            exact ⟨by rw [HRES.out]; rfl, K2.out⟩
          · cases y
            · cases vr
              · go_wp2_with fail
                refine (HRC.out _ K2.out).mono ?_
                rintro e w3 ⟨rfl, rfl⟩
                go_wp2_with fail
                go_ret
                exact ⟨by rw [HRES.out]; rfl, K2.out⟩
              · go_wp2_with fail
                refine (HRC.out _ K2.out).mono ?_
                rintro e w3 ⟨rfl, rfl⟩
                by_cases hl : us.length ≤ 0
                · have hres := HRES.out
                  rw [decide_eq_true hl] at hres
                  have HRES2 := Lib.hid hres
                  have hl1 : us.length = 0 := by omega
                  clear hl hres HRES
                  cases vp
                  all_goals
                    go_wp2_with fail
                    go_ret
                    exact ⟨by rw [HRES2.out]; rfl, K2.out⟩
                · have hres := HRES.out
                  rw [decide_eq_false hl] at hres
                  have HRES2 := Lib.hid hres
                  have hl1 : (0 : Int) < us.length := by omega
                  have hl2 : ¬ us = [] := by intro h; subst h; simp at hl1
                  clear hl hres HRES
                  go_wp2_with fail
                  go_ret
                  exact ⟨by rw [HRES2.out]; rfl, K2.out⟩
            · go_wp2_with fail
              go_ret
              exact ⟨by rw [HRES.out]; rfl, K2.out⟩
        · obtain ⟨vi, hvi⟩ : ∃ v, ((i == 0)) = v := ⟨_, rfl⟩
          obtain ⟨vr, hvr⟩ : ∃ v, risingB ps 0 0 = v := ⟨_, rfl⟩
          obtain ⟨vp, hvp⟩ : ∃ v, putsB us = v := ⟨_, rfl⟩
          have HRES : Hid ((idOk 7 i && yesOk 7 y && risingB ps (leastOf 7) (mostOf 7) && decide (us.length ≤ putsOf 7) && putsB us) = (vi && !y && vr && decide (us.length ≤ 10) && vp)) := by
            have e1 : idOk 7 i = vi := by rw [← hvi]; rfl
            have e2 : yesOk 7 y = !y := rfl
            have e3 : risingB ps (leastOf 7) (mostOf 7) = vr := by rw [← hvr]; rfl
            have e4 : decide (us.length ≤ putsOf 7) = decide (us.length ≤ 10) := rfl
            rw [e1, e2, e3, e4, hvp]; exact Lib.hid rfl
          have hrc := fun W hk => krising_any a4 c4 ps 0 0 W (H.out.parts.keep (w' := W) hk (fun _ _ f => f)) (by omega)
          rw [hvr] at hrc
          have HRC := Lib.hid hrc
          clear hrc hvr
          go_wp2_with fail
          refine (containsbad_any a5 c5 us _ (H.out.puts.keep ((keep_alloc _ _).drew) (fun _ _ f => f))).mono ?_
          rintro e w2 ⟨rfl, hk2⟩
          rw [hvp]
          have cP : w2.cell? ⟨w.heap.size, 4, none⟩ = some (.slice a4 ps.length c4) := hk2.cell' (show World.cell? _ _ = _ from by rw [World.cell?_drew, cell_of_heap (heap_new _ _)]; rfl) (fun f => f)
          have cU : w2.cell? ⟨w.heap.size, 5, none⟩ = some (.slice a5 us.length c5) := hk2.cell' (show World.cell? _ _ = _ from by rw [World.cell?_drew, cell_of_heap (heap_new _ _)]; rfl) (fun f => f)
          have K2 : Hid (Keep NoF w w2) := Lib.hid (((keep_alloc _ _).drew).trans' hk2)
          clear hk2 hvp
          cases vi
          · go_wp2_with fail
            go_ret
            exact ⟨by rw [HRES.out]; rfl, K2.out⟩
          · cases y
            · cases vr
              · go_wp2_with fail
                refine (HRC.out _ K2.out).mono ?_
                rintro e w3 ⟨rfl, rfl⟩
                go_wp2_with fail
                go_ret
                exact ⟨by rw [HRES.out]; rfl, K2.out⟩
              · go_wp2_with fail
                refine (HRC.out _ K2.out).mono ?_
                rintro e w3 ⟨rfl, rfl⟩
                by_cases hl : us.length ≤ 10
                · have hres := HRES.out
                  rw [decide_eq_true hl] at hres
                  have HRES2 := Lib.hid hres
                  have hl1 : (us.length : Int) ≤ 10 := by omega
                  clear hl hres HRES
                  cases vp
                  all_goals
                    go_wp2_with fail
                    go_ret
                    exact ⟨by rw [HRES2.out]; rfl, K2.out⟩
                · have hres := HRES.out
                  rw [decide_eq_false hl] at hres
                  have HRES2 := Lib.hid hres
                  have hl1 : (10 : Int) < us.length := by omega
                  skip
                  clear hl hres HRES
                  go_wp2_with fail
                  go_ret
                  exact ⟨by rw [HRES2.out]; rfl, K2.out⟩
            · go_wp2_with fail
              go_ret
              exact ⟨by rw [HRES.out]; rfl, K2.out⟩
        · obtain ⟨vi, hvi⟩ : ∃ v, ((i == 0)) = v := ⟨_, rfl⟩
          obtain ⟨vr, hvr⟩ : ∃ v, risingB ps 0 7 = v := ⟨_, rfl⟩
          obtain ⟨vp, hvp⟩ : ∃ v, putsB us = v := ⟨_, rfl⟩
          have HRES : Hid ((idOk 8 i && yesOk 8 y && risingB ps (leastOf 8) (mostOf 8) && decide (us.length ≤ putsOf 8) && putsB us) = (vi && !y && vr && decide (us.length ≤ 0) && vp)) := by
            have e1 : idOk 8 i = vi := by rw [← hvi]; rfl
            have e2 : yesOk 8 y = !y := rfl
            have e3 : risingB ps (leastOf 8) (mostOf 8) = vr := by rw [← hvr]; rfl
            have e4 : decide (us.length ≤ putsOf 8) = decide (us.length ≤ 0) := rfl
            rw [e1, e2, e3, e4, hvp]; exact Lib.hid rfl
          have hrc := fun W hk => krising_any a4 c4 ps 0 7 W (H.out.parts.keep (w' := W) hk (fun _ _ f => f)) (by omega)
          rw [hvr] at hrc
          have HRC := Lib.hid hrc
          clear hrc hvr
          go_wp2_with fail
          refine (containsbad_any a5 c5 us _ (H.out.puts.keep ((keep_alloc _ _).drew) (fun _ _ f => f))).mono ?_
          rintro e w2 ⟨rfl, hk2⟩
          rw [hvp]
          have cP : w2.cell? ⟨w.heap.size, 4, none⟩ = some (.slice a4 ps.length c4) := hk2.cell' (show World.cell? _ _ = _ from by rw [World.cell?_drew, cell_of_heap (heap_new _ _)]; rfl) (fun f => f)
          have cU : w2.cell? ⟨w.heap.size, 5, none⟩ = some (.slice a5 us.length c5) := hk2.cell' (show World.cell? _ _ = _ from by rw [World.cell?_drew, cell_of_heap (heap_new _ _)]; rfl) (fun f => f)
          have K2 : Hid (Keep NoF w w2) := Lib.hid (((keep_alloc _ _).drew).trans' hk2)
          clear hk2 hvp
          cases vi
          · go_wp2_with fail
            go_ret
            exact ⟨by rw [HRES.out]; rfl, K2.out⟩
          · cases y
            · cases vr
              · go_wp2_with fail
                refine (HRC.out _ K2.out).mono ?_
                rintro e w3 ⟨rfl, rfl⟩
                go_wp2_with fail
                go_ret
                exact ⟨by rw [HRES.out]; rfl, K2.out⟩
              · go_wp2_with fail
                refine (HRC.out _ K2.out).mono ?_
                rintro e w3 ⟨rfl, rfl⟩
                by_cases hl : us.length ≤ 0
                · have hres := HRES.out
                  rw [decide_eq_true hl] at hres
                  have HRES2 := Lib.hid hres
                  have hl1 : us.length = 0 := by omega
                  clear hl hres HRES
                  cases vp
                  all_goals
                    go_wp2_with fail
                    go_ret
                    exact ⟨by rw [HRES2.out]; rfl, K2.out⟩
                · have hres := HRES.out
                  rw [decide_eq_false hl] at hres
                  have HRES2 := Lib.hid hres
                  have hl1 : (0 : Int) < us.length := by omega
                  have hl2 : ¬ us = [] := by intro h; subst h; simp at hl1
                  clear hl hres HRES
                  go_wp2_with fail
                  go_ret
                  exact ⟨by rw [HRES2.out]; rfl, K2.out⟩
            · go_wp2_with fail
              go_ret
              exact ⟨by rw [HRES.out]; rfl, K2.out⟩
        · obtain ⟨vi, hvi⟩ : ∃ v, ((i == 0)) = v := ⟨_, rfl⟩
          obtain ⟨vr, hvr⟩ : ∃ v, risingB ps 1 1 = v := ⟨_, rfl⟩
          obtain ⟨vp, hvp⟩ : ∃ v, putsB us = v := ⟨_, rfl⟩
          have HRES : Hid ((idOk 9 i && yesOk 9 y && risingB ps (leastOf 9) (mostOf 9) && decide (us.length ≤ putsOf 9) && putsB us) = (vi && !y && vr && decide (us.length ≤ 0) && vp)) := by
            have e1 : idOk 9 i = vi := by rw [← hvi]; rfl
            have e2 : yesOk 9 y = !y := rfl
            have e3 : risingB ps (leastOf 9) (mostOf 9) = vr := by rw [← hvr]; rfl
            have e4 : decide (us.length ≤ putsOf 9) = decide (us.length ≤ 0) := rfl
            rw [e1, e2, e3, e4, hvp]; exact Lib.hid rfl
          have hrc := fun W hk => krising_any a4 c4 ps 1 1 W (H.out.parts.keep (w' := W) hk (fun _ _ f => f)) (by omega)
          rw [hvr] at hrc
          have HRC := Lib.hid hrc
          clear hrc hvr
          go_wp2_with fail
          refine (containsbad_any a5 c5 us _ (H.out.puts.keep ((keep_alloc _ _).drew) (fun _ _ f => f))).mono ?_
          rintro e w2 ⟨rfl, hk2⟩
          rw [hvp]
          have cP : w2.cell? ⟨w.heap.size, 4, none⟩ = some (.slice a4 ps.length c4) := hk2.cell' (show World.cell? _ _ = _ from by rw [World.cell?_drew, cell_of_heap (heap_new _ _)]; rfl) (fun f => f)
          have cU : w2.cell? ⟨w.heap.size, 5, none⟩ = some (.slice a5 us.length c5) := hk2.cell' (show World.cell? _ _ = _ from by rw [World.cell?_drew, cell_of_heap (heap_new _ _)]; rfl) (fun f => f)
          have K2 : Hid (Keep NoF w w2) := Lib.hid (((keep_alloc _ _).drew).trans' hk2)
          clear hk2 hvp
          cases vi
          · go_wp2_with fail
            go_ret
            exact ⟨by rw [HRES.out]; rfl, K2.out⟩
          · cases y
            · cases vr
              · go_wp2_with fail
                refine (HRC.out _ K2.out).mono ?_
                rintro e w3 ⟨rfl, rfl⟩
                go_wp2_with fail
                go_ret
                exact ⟨by rw [HRES.out]; rfl, K2.out⟩
              · go_wp2_with fail
                refine (HRC.out _ K2.out).mono ?_
                rintro e w3 ⟨rfl, rfl⟩
                by_cases hl : us.length ≤ 0
                · have hres := HRES.out
                  rw [decide_eq_true hl] at hres
                  have HRES2 := Lib.hid hres
                  have hl1 : us.length = 0 := by omega
                  clear hl hres HRES
                  cases vp
                  all_goals
                    go_wp2_with fail
                    go_ret
                    exact ⟨by rw [HRES2.out]; rfl, K2.out⟩
                · have hres := HRES.out
                  rw [decide_eq_false hl] at hres
                  have HRES2 := Lib.hid hres
                  have hl1 : (0 : Int) < us.length := by omega
                  have hl2 : ¬ us = [] := by intro h; subst h; simp at hl1
                  clear hl hres HRES
                  go_wp2_with fail
                  go_ret
                  exact ⟨by rw [HRES2.out]; rfl, K2.out⟩
            · go_wp2_with fail
              go_ret
              exact ⟨by rw [HRES.out]; rfl, K2.out⟩
      · have ht2 : tidB t = false := by simpa using ht
        have e : recB ⟨k, t, i, y, ps, us⟩ = false := by
          rw [Bool.eq_false_iff]; intro h; have := ((recB_iff _).1 h).2.1; exact ht this
        rw [e]
        clear e
        have hc := fun W => ktid_any t W bt
        rw [ht2] at hc
        have HC := Lib.hid hc
        clear hc ht ht2
        go_enter Tryz.func69, Tryz.ntmps69
        go_wp2_with fail
        refine (HC.out _).mono ?_
        rintro e w1 ⟨rfl, rfl⟩
        go_wp2_with fail
        go_ret
        exact ⟨rfl, keep_alloc _ _⟩
end Go.Proofs.YtdbgplnjppaimaaGreat
