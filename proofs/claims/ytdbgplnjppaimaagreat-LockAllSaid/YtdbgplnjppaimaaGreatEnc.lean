/- rec's writer: a record's bytes. -/
import Derived.Test.YtdbgplnjppaimaaGreatRecMay
open Go Go.RowKit
namespace Go.Proofs.YtdbgplnjppaimaaGreat

theorem results_tmp4 {fn : Func} {t u v x : Tmp} (h : fn.results = #[.tmp t, .tmp u, .tmp v, .tmp x]) (tmps : Array Value) (P : Program) (w : World) :
    (results fn tmps).run P w = .ok (.tuple #[tmps.getD t undef, tmps.getD u undef, tmps.getD v undef, tmps.getD x undef]) w := by
  simp [results, h]

set_option maxHeartbeats 800000 in
theorem has_any (k : Int) (w : World) :
    Calls Tryz.prog 81 #[.int .i64 k] w fun e w' => e = .returned (.tuple #[.bool (hasId k), .bool (hasYes k), .bool (hasParts k), .bool (hasPuts k)]) ∧ w' = w := by
  have hk : k = 2 ∨ k = 5 ∨ k = 6 ∨ k = 8 ∨ k = 9 ∨ k = 4 ∨ k = 7 ∨ (¬ k = 2 ∧ ¬ k = 5 ∧ ¬ k = 6 ∧ ¬ k = 8 ∧ ¬ k = 9 ∧ ¬ k = 4 ∧ ¬ k = 7) := by omega
  rcases hk with rfl | rfl | rfl | rfl | rfl | rfl | rfl | ⟨k2, k5, k6, k8, k9, k4, k7⟩
  case inr.inr.inr.inr.inr.inr.inr =>
    have e1 : hasId k = false := by simp [hasId, k2]
    have e2 : hasYes k = false := by simp [hasYes, k5]
    have e3 : hasParts k = false := by simp [hasParts, k6, k8, k9]
    have e4 : hasPuts k = false := by simp [hasPuts, k4, k7]
    rw [e1, e2, e3, e4]
    have f2 : (k == 2) = false := by simp; exact k2
    have f5 : (k == 5) = false := by simp; exact k5
    have f6 : (k == 6) = false := by simp; exact k6
    have f8 : (k == 8) = false := by simp; exact k8
    have f9 : (k == 9) = false := by simp; exact k9
    have f4 : (k == 4) = false := by simp; exact k4
    have f7 : (k == 7) = false := by simp; exact k7
    clear e1 e2 e3 e4
    go_enter Tryz.func81, Tryz.ntmps81
    go_wp2_with fail
    refine bodyPost_ret (results_tmp4 rfl _ _ _) rfl ?_
    exact ⟨rfl, rfl⟩
  all_goals
    go_enter Tryz.func81, Tryz.ntmps81
    go_wp2_with fail
    refine bodyPost_ret (results_tmp4 rfl _ _ _) rfl ?_
    exact ⟨rfl, rfl⟩

theorem has_class (k : Int) : (hasId k = true ∧ hasYes k = false ∧ hasParts k = false ∧ hasPuts k = false) ∨ (hasId k = false ∧ hasYes k = true ∧ hasParts k = false ∧ hasPuts k = false) ∨
    (hasId k = false ∧ hasYes k = false ∧ hasParts k = true ∧ hasPuts k = false) ∨ (hasId k = false ∧ hasYes k = false ∧ hasParts k = false ∧ hasPuts k = true) ∨
    (hasId k = false ∧ hasYes k = false ∧ hasParts k = false ∧ hasPuts k = false) := by
  unfold hasId hasYes hasParts hasPuts
  simp only [decide_eq_true_eq, decide_eq_false_iff_not]
  omega

theorem textB_len (s : List UInt8) : (textB s).length = 2 + s.length % 65536 := by
  rw [textB, List.length_append, smallB_length, List.length_take]
  have := Nat.mod_le s.length 65536
  omega
theorem out_alloc {w : World} {b : Nat} {g : Option Nat} {l : List UInt8} (h : OutR w b g l) (o : Obj) : OutR (w.alloc o) b g l := by
  obtain ⟨v, ⟨hh, ho, hne⟩, rfl⟩ := h
  refine ⟨v, ⟨?_, OwnB.keep ho ((Keep.refl NoF w).alloc o) (fun _ _ f => f), hne⟩, rfl⟩
  rw [heap_alloc_old w o (lt_of_heap hh)]; exact hh
theorem out_lt {w : World} {b : Nat} {g : Option Nat} {l : List UInt8} (h : OutR w b g l) : b < w.heap.size ∧ (∀ k, g = some k → k < w.heap.size) := by
  obtain ⟨v, ⟨hh, ho, _⟩, rfl⟩ := h
  exact ⟨lt_of_heap hh, fun k hk => OwnB.lt ho k hk⟩

/-- A writer of the call's own: nothing that was there in w0 has changed. -/
structure WrI (w0 w : World) (O : Nat) (g : Option Nat) (l : List UInt8) : Prop where
  out : OutR w O g l
  keep : Keep NoF w0 w
  on : w0.heap.size ≤ O
  gn : ∀ k, g = some k → w0.heap.size ≤ k
theorem WrI.start (w : World) : WrI w (w.alloc (.cells #[.slice none 0 0] 122)) w.heap.size none [] := ⟨out_new w, keep_alloc _ _, Nat.le_refl _, nofun⟩
theorem WrI.step {w0 w w2 : World} {O : Nat} {g : Option Nat} {l l2 : List UInt8} (h : WrI w0 w O g l) (hs : OutS w O g l2 w2) : ∃ g2, WrI w0 w2 O g2 l2 := by
  obtain ⟨g2, hr, hk, hg⟩ := hs
  refine ⟨g2, hr, h.keep.trans hk (fun _ _ f => f) (fun i hi f => ?_), h.on, fun k hk2 => ?_⟩
  · rcases f with f | f
    · have := h.on; omega
    · have := h.gn i f; omega
  · rcases hg with rfl | hg
    · exact h.gn k hk2
    · have := hg k hk2; have := h.keep.size; omega
theorem WrI.alloc {w0 w : World} {O : Nat} {g : Option Nat} {l : List UInt8} (h : WrI w0 w O g l) (o : Obj) : WrI w0 (w.alloc o) O g l :=
  ⟨out_alloc h.out o, h.keep.alloc o, h.on, h.gn⟩
theorem WrI.fresh {w0 w : World} {O : Nat} {g : Option Nat} {l : List UInt8} (h : WrI w0 w O g l) : ¬ OF O g w.heap.size := by
  have := out_lt h.out
  rintro (e | e)
  · omega
  · have := this.2 _ e; omega

set_option maxHeartbeats 400000 in
theorem encode_bad (r : RecV) (a4 : Option Addr) (c4 : Nat) (a5 : Option Addr) (c5 : Nat) (w : World) (h : RecAt w r a4 c4 a5 c5) (hbad : recB r = false) :
    Calls Tryz.prog 62 #[recVal r a4 c4 a5 c5] w fun e w' => e = .returned (.slice none 0 0) ∧ Keep NoF w w' := by
  obtain ⟨k, t, i, y, ps, us⟩ := r
  have hc := fun W hk => krecord_any ⟨k, t, i, y, ps, us⟩ a4 c4 a5 c5 W (h.keep (w' := W) hk)
  rw [hbad] at hc
  unfold recVal at hc ⊢
  simp only at hc ⊢
  have HC := Lib.hid hc
  clear hc h hbad
  go_enter Tryz.func62, Tryz.ntmps62
  go_wp2_with fail
  refine (HC.out _ (keep_alloc _ _)).mono ?_
  rintro e w1 ⟨rfl, hk1⟩
  have K1 := Lib.hid hk1; clear hk1
  go_wp2_with fail
  go_ret
  exact ⟨rfl, (keep_alloc _ _).trans' K1.out⟩

set_option maxHeartbeats 4000000 in
theorem encode_ok (r : RecV) (a4 : Option Addr) (c4 : Nat) (a5 : Option Addr) (c5 : Nat) (w : World) (h : RecAt w r a4 c4 a5 c5) (hok : recB r = true) :
    Calls Tryz.prog 62 #[recVal r a4 c4 a5 c5] w fun e w' => ∃ v, e = .returned v ∧ OwnB w' v (encB r) ∧ Keep NoF w w' ∧ ∀ k, v.ownBlock = some k → w.heap.size ≤ k := by
  obtain ⟨k, t, i, y, ps, us⟩ := r
  have hb := (recB_iff _).1 hok
  simp only at hb
  have HUS : Hid (∀ p ∈ us, putB p = true) := puts_mem hb.2.2.2.2.2.2
  have HUL : Hid (us.length ≤ 10) := by have := hb.2.2.2.2.2.1; unfold putsOf at this; split at this <;> exact Lib.hid (by omega)
  have hpl : ps.length ≤ 7 := by have := (rising_mem hb.2.2.2.2.1).1; unfold mostOf at this; split at this <;> (try split at this) <;> omega
  have hul := HUL.out
  have bk := h.kind
  have bt := h.tid
  have bi := h.id
  have hcp4 := h.parts.1
  have hcp4b := h.parts.2.1
  have hcp5 := h.puts.1
  have hcp5b := h.puts.2.1
  unfold maxLen at hcp4b hcp5b
  unfold InI64 at bk bt bi
  simp only at bk bt bi hcp4 hcp5
  have hc := fun W hk => krecord_any ⟨k, t, i, y, ps, us⟩ a4 c4 a5 c5 W (h.keep (w' := W) hk)
  rw [hok] at hc
  unfold recVal at hc ⊢
  simp only at hc ⊢
  have HC := Lib.hid hc; have H := Lib.hid h
  clear hc h hok hb
  go_enter Tryz.func62, Tryz.ntmps62
  go_wp2_with fail
  refine (HC.out _ (keep_alloc _ _)).mono ?_
  rintro e w1 ⟨rfl, hk1⟩
  have K1 : Hid (Keep NoF w w1) := Lib.hid ((keep_alloc _ _).trans' hk1)
  have CS : Hid (w1.cell? ⟨w.heap.size, 0, none⟩ = some (.int .i64 k) ∧ w1.cell? ⟨w.heap.size, 1, none⟩ = some (.int .i64 t) ∧ w1.cell? ⟨w.heap.size, 2, none⟩ = some (.int .i64 i) ∧
      w1.cell? ⟨w.heap.size, 3, none⟩ = some (.bool y) ∧ w1.cell? ⟨w.heap.size, 4, none⟩ = some (.slice a4 ps.length c4) ∧ w1.cell? ⟨w.heap.size, 5, none⟩ = some (.slice a5 us.length c5)) := by
    refine ⟨hk1.cell' ?_ (fun f => f), hk1.cell' ?_ (fun f => f), hk1.cell' ?_ (fun f => f), hk1.cell' ?_ (fun f => f), hk1.cell' ?_ (fun f => f), hk1.cell' ?_ (fun f => f)⟩
    all_goals (rw [cell_of_heap (heap_new _ _)]; rfl)
  have HI1 := Lib.hid (WrI.start w1)
  have d0 := HI1.out.keep.cell' CS.out.1 (fun f => f)
  clear hk1
  go_wp2_with fail
  obtain ⟨O, hO⟩ : ∃ O, w1.heap.size = O := ⟨_, rfl⟩
  rw [hO] at HI1 ⊢
  clear hO
  refine (small_any O none [] k _ HI1.out.out (by simp)).mono ?_
  rintro e w3 ⟨rfl, hs⟩
  obtain ⟨g3, hI3⟩ := HI1.out.step hs
  have HI3 := Lib.hid hI3; clear hs hI3 d0 HI1
  have d1 : w3.cell? ⟨w.heap.size, 1, none⟩ = some (.int .i64 t) := HI3.out.keep.cell' CS.out.2.1 (fun f => f)
  go_wp2_with fail
  refine (long_any O g3 _ t _ HI3.out.out (by simp [smallB_length])).mono ?_
  rintro e w4 ⟨rfl, hs⟩
  obtain ⟨g4, hI4⟩ := HI3.out.step hs
  have HI4 := Lib.hid hI4; clear hs hI4 d1 HI3
  have d0 : w4.cell? ⟨w.heap.size, 0, none⟩ = some (.int .i64 k) := HI4.out.keep.cell' CS.out.1 (fun f => f)
  go_wp2_with fail
  rcases has_class k with hcl | hcl | hcl | hcl | hcl
  · have HCL : Hid (hasId k = true ∧ hasYes k = false ∧ hasParts k = false ∧ hasPuts k = false) := hcl
    obtain ⟨q1, q2, q3, q4⟩ := hcl
    refine (has_any k _).mono ?_
    rintro e w5 ⟨rfl, rfl⟩
    rw [q1, q2, q3, q4]
    clear q1 q2 q3 q4
    have d2 : w5.cell? ⟨w.heap.size, 2, none⟩ = some (.int .i64 i) := HI4.out.keep.cell' CS.out.2.2.1 (fun f => f)
    go_wp2_with fail
    refine (long_any O g4 _ i _ HI4.out.out (by simp [smallB_length, longB_length])).mono ?_
    rintro e w6 ⟨rfl, hs⟩
    obtain ⟨g6, hI6⟩ := HI4.out.step hs
    have HI6 := Lib.hid hI6; clear hs hI6 d2
    obtain ⟨v, hv, hvg⟩ := HI6.out.out
    have cv := cell_of_heap hv.1 0
    have cv2 : w6.cell? ⟨O, 0, none⟩ = some v := by rw [cv]; rfl
    have HV := Lib.hid hv; have HG := Lib.hid hvg
    clear hv cv hvg
    go_wp2_with fail
    go_ret
    refine ⟨_, rfl, ?_, K1.out.trans' HI6.out.keep, fun k hk => ?_⟩
    · have e : encB ⟨k, t, i, y, ps, us⟩ = ([] ++ smallB k) ++ longB t ++ longB i := by unfold encB; simp only [HCL.out.1, HCL.out.2.1, HCL.out.2.2.1, HCL.out.2.2.2]; simp
      rw [e]
      exact HV.out.2.1
    · have := HI6.out.gn k (by rw [← HG.out]; exact hk); have := K1.out.size; omega
  · have HCL : Hid (hasId k = false ∧ hasYes k = true ∧ hasParts k = false ∧ hasPuts k = false) := hcl
    obtain ⟨q1, q2, q3, q4⟩ := hcl
    refine (has_any k _).mono ?_
    rintro e w5 ⟨rfl, rfl⟩
    rw [q1, q2, q3, q4]
    clear q1 q2 q3 q4
    have d3 : w5.cell? ⟨w.heap.size, 3, none⟩ = some (.bool y) := HI4.out.keep.cell' CS.out.2.2.2.1 (fun f => f)
    go_wp2_with fail
    refine (truth_any O g4 _ y _ HI4.out.out (by simp [smallB_length, longB_length])).mono ?_
    rintro e w6 ⟨rfl, hs⟩
    obtain ⟨g6, hI6⟩ := HI4.out.step hs
    have HI6 := Lib.hid hI6; clear hs hI6 d3
    obtain ⟨v, hv, hvg⟩ := HI6.out.out
    have cv := cell_of_heap hv.1 0
    have cv2 : w6.cell? ⟨O, 0, none⟩ = some v := by rw [cv]; rfl
    have HV := Lib.hid hv; have HG := Lib.hid hvg
    clear hv cv hvg
    go_wp2_with fail
    go_ret
    refine ⟨_, rfl, ?_, K1.out.trans' HI6.out.keep, fun k hk => ?_⟩
    · have e : encB ⟨k, t, i, y, ps, us⟩ = ([] ++ smallB k) ++ longB t ++ truthB y := by unfold encB; simp only [HCL.out.1, HCL.out.2.1, HCL.out.2.2.1, HCL.out.2.2.2]; simp
      rw [e]
      exact HV.out.2.1
    · have := HI6.out.gn k (by rw [← HG.out]; exact hk); have := K1.out.size; omega
  · have HCL : Hid (hasId k = false ∧ hasYes k = false ∧ hasParts k = true ∧ hasPuts k = false) := hcl
    obtain ⟨q1, q2, q3, q4⟩ := hcl
    refine (has_any k _).mono ?_
    rintro e w5 ⟨rfl, rfl⟩
    rw [q1, q2, q3, q4]
    clear q1 q2 q3 q4
    have d4 : w5.cell? ⟨w.heap.size, 4, none⟩ = some (.slice a4 ps.length c4) := HI4.out.keep.cell' CS.out.2.2.2.2.1 (fun f => f)
    go_wp2_with fail
    refine (small_any O g4 _ ps.length _ HI4.out.out (by simp [smallB_length, longB_length])).mono ?_
    rintro e w6 ⟨rfl, hs⟩
    obtain ⟨g6, hI6⟩ := HI4.out.step hs
    have HI6 := Lib.hid hI6; clear hs hI6 d4
    have d4 : w6.cell? ⟨w.heap.size, 4, none⟩ = some (.slice a4 ps.length c4) := HI6.out.keep.cell' CS.out.2.2.2.2.1 (fun f => f)
    generalize hB : ([] ++ smallB k) ++ longB t ++ smallB ps.length = B at HI6
    have HB : Hid (B.length = 12) := by rw [← hB]; simp [smallB_length, longB_length, Lib.hid]
    go_wp2_with fail
    go_loopw [52] (fun iv wr => ∃ j : Nat, j ≤ ps.length ∧ iv = .int .i64 j ∧ ∃ g, WrI w1 wr O g (B ++ partsB (ps.take j))) (fun iv _ => ps.length - (intOf iv).toNat)
    case atStart => exact ⟨0, Nat.zero_le _, rfl, g6, by simpa [partsB] using HI6.out⟩
    case round =>
      obtain ⟨j, hj, rfl, g, hI⟩ := hrel
      have HI := Lib.hid hI
      clear hI HI6 d4
      by_cases hlt : j < ps.length
      · obtain ⟨g0, o0, rfl, c0⟩ := (H.out.parts.keep (K1.out.trans' HI.out.keep) (fun _ _ f => f)).2.2.2 j hlt
        have hin := H.out.parts.2.2.1 _ (List.getElem_mem hlt)
        have hsn : partsB (ps.take (j + 1)) = partsB (ps.take j) ++ smallB ps[j] := by rw [List.take_succ_eq_append_getElem hlt, partsB, List.flatMap_append]; simp [partsB]
        have hbl : (partsB (ps.take j)).length ≤ 2 * j := by
          have e : (partsB (ps.take j)).length = 2 * (ps.take j).length := by
            generalize ps.take j = q
            induction q with
            | nil => rfl
            | cons a q ih => simp only [partsB, List.flatMap_cons, List.length_append, smallB_length, List.length_cons] at ih ⊢; omega
          rw [e, List.length_take]; omega
        obtain ⟨x, hx⟩ : ∃ x, ps[j] = x := ⟨_, rfl⟩
        rw [hx] at c0 hin hsn
        unfold InI64 at hin
        have HS := Lib.hid hsn; have HBL := Lib.hid hbl
        clear hx hsn hbl
        go_wp2_with fail
        refine (small_any O g _ x _ HI.out.out (by have := HB.out; have := HBL.out; simp only [List.length_append]; omega)).mono ?_
        rintro e w7 ⟨rfl, hs⟩
        obtain ⟨g7, hI7⟩ := HI.out.step hs
        rw [List.append_assoc, ← HS.out] at hI7
        have HI7 := Lib.hid hI7; clear hs hI7 c0
        go_wp2_with fail
        go_roundw
        case rel => exact ⟨j + 1, by omega, by go_num, g7, HI7.out⟩
        case measure => simp [intOf]; omega
      · obtain rfl : j = ps.length := by omega
        have hI := HI.out
        rw [List.take_length] at hI
        have HIz := Lib.hid hI
        clear hI HI
        obtain ⟨v, hv, hvg⟩ := HIz.out.out
        have cv := cell_of_heap hv.1 0
        have cv2 : wr.cell? ⟨O, 0, none⟩ = some v := by rw [cv]; rfl
        have HV := Lib.hid hv; have HG := Lib.hid hvg
        clear hv cv hvg
        go_wp2_with fail
        go_ret
        refine ⟨_, rfl, ?_, K1.out.trans' HIz.out.keep, fun k hk => ?_⟩
        · have e : encB ⟨k, t, i, y, ps, us⟩ = B ++ partsB ps := by unfold encB; rw [← hB]; simp only [HCL.out.1, HCL.out.2.1, HCL.out.2.2.1, HCL.out.2.2.2]; simp
          rw [e]
          exact HV.out.2.1
        · have := HIz.out.gn k (by rw [← HG.out]; exact hk); have := K1.out.size; omega
  · have HCL : Hid (hasId k = false ∧ hasYes k = false ∧ hasParts k = false ∧ hasPuts k = true) := hcl
    obtain ⟨q1, q2, q3, q4⟩ := hcl
    refine (has_any k _).mono ?_
    rintro e w5 ⟨rfl, rfl⟩
    rw [q1, q2, q3, q4]
    clear q1 q2 q3 q4
    have d5 : w5.cell? ⟨w.heap.size, 5, none⟩ = some (.slice a5 us.length c5) := HI4.out.keep.cell' CS.out.2.2.2.2.2 (fun f => f)
    go_wp2_with fail
    refine (small_any O g4 _ us.length _ HI4.out.out (by simp [smallB_length, longB_length])).mono ?_
    rintro e w6 ⟨rfl, hs⟩
    obtain ⟨g6, hI6⟩ := HI4.out.step hs
    have HI6 := Lib.hid hI6; clear hs hI6 d5
    have d5 : w6.cell? ⟨w.heap.size, 5, none⟩ = some (.slice a5 us.length c5) := HI6.out.keep.cell' CS.out.2.2.2.2.2 (fun f => f)
    generalize hB : ([] ++ smallB k) ++ longB t ++ smallB us.length = B at HI6
    have HB : Hid (B.length = 12) := by rw [← hB]; simp [smallB_length, longB_length, Lib.hid]
    go_wp2_with fail
    go_loopw [69] (fun iv wr => ∃ j : Nat, j ≤ us.length ∧ iv = .int .i64 j ∧ ∃ g, WrI w1 wr O g (B ++ putsBytes (us.take j))) (fun iv _ => us.length - (intOf iv).toNat)
    case atStart => exact ⟨0, Nat.zero_le _, rfl, g6, by simpa [putsBytes] using HI6.out⟩
    case round =>
      obtain ⟨j, hj, rfl, g, hI⟩ := hrel
      have HI := Lib.hid hI
      clear hI HI6 d5
      by_cases hlt : j < us.length
      · obtain ⟨g0, o0, rfl, c0, c1⟩ := (H.out.puts.keep (K1.out.trans' HI.out.keep) (fun _ _ f => f)).2.2.2 j hlt
        have hsz := putB_sizes (HUS.out _ (List.getElem_mem hlt))
        have hsn : putsBytes (us.take (j + 1)) = putsBytes (us.take j) ++ textB us[j].q.data.toList ++ textB us[j].b.data.toList := by rw [List.take_succ_eq_append_getElem hlt, putsBytes, List.flatMap_append]; simp [putsBytes]
        have hbl : (putsBytes (us.take j)).length ≤ 72 * j := by
          have e : (putsBytes (us.take j)).length ≤ 72 * (us.take j).length := by
            have hm : ∀ p ∈ us.take j, putB p = true := fun p hp => HUS.out p (List.mem_of_mem_take hp)
            generalize us.take j = q at hm
            induction q with
            | nil => exact Nat.le_refl _
            | cons a q ih =>
              have h1 := ih (fun p hp => hm p (by simp [hp]))
              have h2 := putB_sizes (hm a (by simp))
              simp only [putsBytes, List.flatMap_cons, List.length_append, textB_len, ba_length, List.length_cons] at h1 ⊢
              omega
          rw [List.length_take] at e; omega
        obtain ⟨p, hp⟩ : ∃ p, us[j] = p := ⟨_, rfl⟩
        rw [hp] at c0 c1 hsz hsn
        obtain ⟨pq, pb⟩ := p
        simp only at c0 c1 hsz hsn
        have HS := Lib.hid hsn; have HBL := Lib.hid hbl; have HSZ := Lib.hid hsz
        clear hp hsn hbl hsz
        go_wp2_with fail
        refine (text_any O g _ pq _ (HI.out.alloc _).out (by have := HB.out; have := HBL.out; have := HUL.out; simp only [List.length_append]; omega) (by have := HSZ.out; omega)).mono ?_
        rintro e w7 ⟨rfl, hs⟩
        obtain ⟨g7, hI7⟩ := (HI.out.alloc _).step hs
        have d1 : w7.cell? ⟨wr.heap.size, 1, none⟩ = some (.string pb) := by
          obtain ⟨gz, _, hkz, _⟩ := hs
          exact hkz.cell' (v := .string pb) (by rw [cell_of_heap (heap_new _ _)]; rfl) (HI.out.fresh)
        have HI7 := Lib.hid hI7; clear hs hI7 c0 c1
        go_wp2_with fail
        refine (text_any O g7 _ pb _ HI7.out.out (by have := HB.out; have := HBL.out; have := HUL.out; have := HSZ.out; simp only [List.length_append, textB_len, ba_length]; omega) (by have := HSZ.out; omega)).mono ?_
        rintro e w8 ⟨rfl, hs⟩
        obtain ⟨g8, hI8⟩ := HI7.out.step hs
        rw [List.append_assoc, List.append_assoc, ← List.append_assoc (putsBytes (us.take j)), ← HS.out] at hI8
        have HI8 := Lib.hid hI8; clear hs hI8 d1
        go_wp2_with fail
        go_roundw
        case rel => exact ⟨j + 1, by omega, by go_num, g8, HI8.out⟩
        case measure => simp [intOf]; omega
      · obtain rfl : j = us.length := by omega
        have hI := HI.out
        rw [List.take_length] at hI
        have HIz := Lib.hid hI
        clear hI HI
        obtain ⟨v, hv, hvg⟩ := HIz.out.out
        have cv := cell_of_heap hv.1 0
        have cv2 : wr.cell? ⟨O, 0, none⟩ = some v := by rw [cv]; rfl
        have HV := Lib.hid hv; have HG := Lib.hid hvg
        clear hv cv hvg
        go_wp2_with fail
        go_ret
        refine ⟨_, rfl, ?_, K1.out.trans' HIz.out.keep, fun k hk => ?_⟩
        · have e : encB ⟨k, t, i, y, ps, us⟩ = B ++ putsBytes us := by unfold encB; rw [← hB]; simp only [HCL.out.1, HCL.out.2.1, HCL.out.2.2.1, HCL.out.2.2.2]; simp
          rw [e]
          exact HV.out.2.1
        · have := HIz.out.gn k (by rw [← HG.out]; exact hk); have := K1.out.size; omega
  · have HCL : Hid (hasId k = false ∧ hasYes k = false ∧ hasParts k = false ∧ hasPuts k = false) := hcl
    obtain ⟨q1, q2, q3, q4⟩ := hcl
    refine (has_any k _).mono ?_
    rintro e w5 ⟨rfl, rfl⟩
    rw [q1, q2, q3, q4]
    clear q1 q2 q3 q4
    obtain ⟨v, hv, hvg⟩ := HI4.out.out
    have cv := cell_of_heap hv.1 0
    have cv2 : w5.cell? ⟨O, 0, none⟩ = some v := by rw [cv]; rfl
    have HV := Lib.hid hv; have HG := Lib.hid hvg
    clear hv cv hvg
    go_wp2_with fail
    go_ret
    refine ⟨_, rfl, ?_, K1.out.trans' HI4.out.keep, fun k hk => ?_⟩
    · have e : encB ⟨k, t, i, y, ps, us⟩ = ([] ++ smallB k) ++ longB t := by unfold encB; simp only [HCL.out.1, HCL.out.2.1, HCL.out.2.2.1, HCL.out.2.2.2]; simp
      rw [e]
      exact HV.out.2.1
    · have := HI4.out.gn k (by rw [← HG.out]; exact hk); have := K1.out.size; omega
end Go.Proofs.YtdbgplnjppaimaaGreat
