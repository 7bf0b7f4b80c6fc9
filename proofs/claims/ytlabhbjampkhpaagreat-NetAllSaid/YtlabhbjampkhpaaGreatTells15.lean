/- Bytes are a packet's, just its, or none's. -/
import Derived.Test.YtlabhbjampkhpaaGreatKit15
open Go Go.RowKit
namespace Go.Proofs.YtlabhbjampkhpaaGreat
theorem conv_own {v : Value} {l : List UInt8} {w : World} (h : OwnB w v l) : (convert 24 9 v).run Tryz.prog w = .ok (.string (bstr l)) w := by
  obtain ⟨ao, cp, rfl, hs, _⟩ := h.slb
  exact conv_at hs rfl
set_option maxHeartbeats 4000000 in
set_option maxRecDepth 8000 in
theorem tells_bad (ao : Option Addr) (m cp : Nat) (l : List UInt8) (w : World) (h : SlB w ao cp l) (hn : l.length = m) (hb : ∀ g, blockOf ao = some g → g < w.heap.size) (hd : decW l = false) :
    Calls Tryz.prog 17 #[.slice ao m cp] w fun e w' => e = .returned (.bool true) ∧ Keep NoF w w' := by
  have HD : Hid (Calls Tryz.prog 18 #[.slice ao m cp] w fun e w' => e = .returned (.tuple #[.agg #[.int .i64 0, .int .i64 0, .int .i64 0, .int .i64 0, .int .i64 0, .bool false], .int .i64 1]) ∧ Keep NoF w w') := by
    refine Lib.hid ?_
    have h1 := wdec_at ao m cp l w h hn hb
    unfold WDecPost at h1
    rw [decPk_bad hd, hd] at h1
    exact h1
  clear h hn hb hd
  go_enter Tryz.func17, Tryz.ntmps17
  go_wp2_with fail
  refine HD.out.mono ?_
  rintro e w1 ⟨rfl, hk⟩
  have K1 := Lib.hid hk; clear hk
  go_wp2_with fail
  go_ret
  exact ⟨rfl, K1.out.alloc _⟩
set_option maxHeartbeats 4000000 in
set_option maxRecDepth 8000 in
theorem tells_ok (ao : Option Addr) (m cp : Nat) (l : List UInt8) (w : World) (h : SlB w ao cp l) (hn : l.length = m) (hb : ∀ g, blockOf ao = some g → g < w.heap.size) (hd : decW l = true) :
    Calls Tryz.prog 17 #[.slice ao m cp] w fun e w' => e = .returned (.bool true) ∧ Keep NoF w w' := by
  have H1 := Lib.hid (wdec_at ao m cp l w h hn hb)
  obtain ⟨q1, q2, q3⟩ := dec_is hd
  unfold WDecPost at H1
  rw [hd] at H1
  generalize decPk l = p at H1 q1 q2 q3
  have hr := fun W => rpacket_any p W q3
  rw [q1] at hr
  have HR := Lib.hid hr
  have hby := fun W => bytes15_any p W
  rw [q2] at hby
  have HBY := Lib.hid hby
  have HSL := Lib.hid h; have HN := Lib.hid hn
  clear hr hby q1 q2 q3 h hn hb hd
  obtain ⟨k, f, t, d, n, y⟩ := p
  unfold packVal at H1 HR HBY
  simp only at H1 HR HBY
  go_enter Tryz.func17, Tryz.ntmps17
  go_wp2_with fail
  refine H1.out.mono ?_
  rintro e w1 ⟨rfl, hk⟩
  have K1 := Lib.hid hk; clear hk
  obtain ⟨C, hhC⟩ : ∃ C, w1.heap.size = C := ⟨_, rfl⟩
  go_upto_region 4 with fail
  have hrC := heap_new w1 (.cells #[.int .i64 k, .int .i64 f, .int .i64 t, .int .i64 d, .int .i64 n, .bool y] 23 (0, 0))
  have hkC := keep_alloc w1 (.cells #[.int .i64 k, .int .i64 f, .int .i64 t, .int .i64 d, .int .i64 n, .bool y] 23 (0, 0))
  have hsC : (w1.alloc (.cells #[.int .i64 k, .int .i64 f, .int .i64 t, .int .i64 d, .int .i64 n, .bool y] 23 (0, 0))).heap.size = w1.heap.size + 1 := size_alloc _ _
  show Code.wp _ _ _ _ (w1.alloc (.cells #[.int .i64 k, .int .i64 f, .int .i64 t, .int .i64 d, .int .i64 n, .bool y] 23 (0, 0)))
  rw [hhC] at hrC hsC
  generalize w1.alloc (.cells #[.int .i64 k, .int .i64 f, .int .i64 t, .int .i64 d, .int .i64 n, .bool y] 23 (0, 0)) = W2 at hrC hkC hsC ⊢
  (try rw [hhC])
  have HCC : Hid (∀ W : World, W.heap[C]? = W2.heap[C]? → W.cell? ⟨C, 0, none⟩ = some (.int .i64 k) ∧ W.cell? ⟨C, 1, none⟩ = some (.int .i64 f) ∧ W.cell? ⟨C, 2, none⟩ = some (.int .i64 t) ∧ W.cell? ⟨C, 3, none⟩ = some (.int .i64 d) ∧ W.cell? ⟨C, 4, none⟩ = some (.int .i64 n) ∧ W.cell? ⟨C, 5, none⟩ = some (.bool y)) := Lib.hid fun W hW => by
    have e := hW.trans hrC
    refine ⟨?_, ?_, ?_, ?_, ?_, ?_⟩
    all_goals (rw [cell_of_heap e]; rfl)
  have HKC := Lib.hid hkC; have HRC := Lib.hid hrC; have HLC : Hid (C < W2.heap.size ∧ w1.heap.size = C) := Lib.hid ⟨by omega, hhC⟩
  clear hrC hkC hsC hhC
  have HV : Hid (∀ W, Keep NoF W2 W → (convert 24 9 (.slice ao m cp)).run Tryz.prog W = .ok (.string (bstr l)) W) := Lib.hid fun W hW => conv_at (HSL.out.keep ((K1.out.trans' HKC.out).trans' hW) (fun _ _ f => f)) HN.out
  have hk0 := And.intro (HCC.out W2.drew rfl) (HV.out W2.drew (Keep.refl NoF W2).drew)
  refine wp_region_noPanic ?_
  refine wp_region_held_drew (S := (fun W' : World => (W'.cell? ⟨C, 0, none⟩ = some (.int .i64 k) ∧ W'.cell? ⟨C, 1, none⟩ = some (.int .i64 f) ∧ W'.cell? ⟨C, 2, none⟩ = some (.int .i64 t) ∧ W'.cell? ⟨C, 3, none⟩ = some (.int .i64 d) ∧ W'.cell? ⟨C, 4, none⟩ = some (.int .i64 n) ∧ W'.cell? ⟨C, 5, none⟩ = some (.bool y)) ∧ ((convert 24 9 (.slice ao m cp)).run Tryz.prog W' = .ok (.string (bstr l)) W'))) (by kernel_rfl) (hk0) (fun hHeld => ?_)
  refine wpAnyH_take (i := 0) (oi := ?o0) (v := ?v0) ?hi0 (by kernel_rfl) (by kernel_rfl) (by kernel_rfl) (fun _ _ _ h => h) (Or.inl ⟨?w0, ?y0⟩) (by assumption) ?r0
  case hi0 => (simp only [List.getElem?_toArray, List.getElem?_cons_zero]; try rfl)
  case w0 => rfl
  case y0 => (intro w hSw; (try dsimp only at hSw); go_simp; (try with_reducible rfl))
  (try simp only [Act.put, List.setIfInBounds_toArray, List.set_cons_zero, List.set_cons_succ])
  refine wpAnyH_ready (rs := [1]) (by kernel_rfl) (by simp) ?_
  refine AllReadyH.cons (o := ?o1) ?hi1 (fun K hK => ?_) AllReadyH.nil
  case hi1 => (simp only [List.getElem?_toArray, List.getElem?_cons_succ, List.getElem?_cons_zero]; try rfl)
  go_simp
  (go_at_call 16; refine (HR.out _).mono ?_; rintro e wA ⟨rfl, hkA⟩; have KA : Hid (Keep NoF W2 wA) := Lib.hid hkA.of_drew; clear hkA)
  go_wp2_with fail
  refine hK.out _ _ (And.intro (HCC.out _ (KA.out.block C HLC.out.1 (fun f => f))) (HV.out _ KA.out)) (fun hHeld => ?_)
  clear hK K
  (try simp only [Act.put, List.setIfInBounds_toArray, List.set_cons_zero, List.set_cons_succ])
  refine wpAnyH_take (i := 2) (oi := ?o2) (v := ?v2) ?hi2 (by kernel_rfl) (by kernel_rfl) (by kernel_rfl) (fun _ _ _ h => h) (Or.inl ⟨?w2, ?y2⟩) (by assumption) ?r2
  case hi2 => (simp only [List.getElem?_toArray, List.getElem?_cons_succ, List.getElem?_cons_zero]; try rfl)
  case w2 => rfl
  case y2 => (intro w hSw; (try dsimp only at hSw); go_simp; (try with_reducible rfl))
  (try simp only [Act.put, List.setIfInBounds_toArray, List.set_cons_zero, List.set_cons_succ])
  refine wpAnyH_take (i := 3) (oi := ?o3) (v := ?v3) ?hi3 (by kernel_rfl) (by kernel_rfl) (by kernel_rfl) (fun _ _ _ h => h) (Or.inl ⟨?w3, ?y3⟩) (by assumption) ?r3
  case hi3 => (simp only [List.getElem?_toArray, List.getElem?_cons_succ, List.getElem?_cons_zero]; try rfl)
  case w3 => rfl
  case y3 => (intro w hSw; (try dsimp only at hSw); go_simp; (try with_reducible rfl))
  (try simp only [Act.put, List.setIfInBounds_toArray, List.set_cons_zero, List.set_cons_succ])
  refine wpAnyH_take (i := 6) (oi := ?o6) (v := ?v6) ?hi6 (by kernel_rfl) (by kernel_rfl) (by kernel_rfl) (fun _ _ _ h => h) (Or.inl ⟨?w6, ?y6⟩) (by assumption) ?r6
  case hi6 => (simp only [List.getElem?_toArray, List.getElem?_cons_succ, List.getElem?_cons_zero]; try rfl)
  case w6 => rfl
  case y6 => (intro w hSw; (try dsimp only at hSw); go_simp; (try with_reducible rfl))
  (try simp only [Act.put, List.setIfInBounds_toArray, List.set_cons_zero, List.set_cons_succ])
  refine wpAnyH_take (i := 7) (oi := ?o7) (v := ?v7) ?hi7 (by kernel_rfl) (by kernel_rfl) (by kernel_rfl) (fun _ _ _ h => h) (Or.inl ⟨?w7, ?y7⟩) (by assumption) ?r7
  case hi7 => (simp only [List.getElem?_toArray, List.getElem?_cons_succ, List.getElem?_cons_zero]; try rfl)
  case w7 => rfl
  case y7 => (intro w hSw; (try dsimp only at hSw); go_simp; (try with_reducible rfl))
  (try simp only [Act.put, List.setIfInBounds_toArray, List.set_cons_zero, List.set_cons_succ])
  refine wpAnyH_ready (rs := [4]) (by kernel_rfl) (by simp) ?_
  refine AllReadyH.cons (o := ?o4) ?hi4 (fun K hK => ?_) AllReadyH.nil
  case hi4 => (simp only [List.getElem?_toArray, List.getElem?_cons_succ, List.getElem?_cons_zero]; try rfl)
  go_simp
  (go_at_call 19; refine (HBY.out _).mono ?_; rintro e wB ⟨vB, rfl, hvB, hkB, _⟩; have KB : Hid (Keep NoF W2 wB) := Lib.hid (KA.out.trans' hkB); have hcB := conv_own hvB; clear hkB hvB)
  go_wp2_with fail
  refine hK.out _ _ (And.intro (HCC.out _ (KB.out.block C HLC.out.1 (fun f => f))) (HV.out _ KB.out)) (fun hHeld => ?_)
  clear hK K
  (try simp only [Act.put, List.setIfInBounds_toArray, List.set_cons_zero, List.set_cons_succ])
  refine wpAnyH_ready (rs := [5]) (by kernel_rfl) (by simp) ?_
  refine AllReadyH.cons (o := ?o5) ?hi5 (fun K hK => ?_) AllReadyH.nil
  case hi5 => (simp only [List.getElem?_toArray, List.getElem?_cons_succ, List.getElem?_cons_zero]; try rfl)
  go_simp
  refine hK.out _ _ (And.intro (HCC.out _ (KB.out.block C HLC.out.1 (fun f => f))) (HV.out _ KB.out)) (fun hHeld => ?_)
  clear hK K
  (try simp only [Act.put, List.setIfInBounds_toArray, List.set_cons_zero, List.set_cons_succ])
  refine wpAnyH_take (i := 8) (oi := ?o8) (v := ?v8) ?hi8 (by kernel_rfl) (by kernel_rfl) (by kernel_rfl) (fun _ _ _ h => h) (Or.inl ⟨?w8, ?y8⟩) (by assumption) ?r8
  case hi8 => (simp only [List.getElem?_toArray, List.getElem?_cons_succ, List.getElem?_cons_zero]; try rfl)
  case w8 => rfl
  case y8 => (intro w hSw; (try dsimp only at hSw); go_simp; (try with_reducible rfl))
  (try simp only [Act.put, List.setIfInBounds_toArray, List.set_cons_zero, List.set_cons_succ])
  refine wpAnyH_take (i := 9) (oi := ?o9) (v := ?v9) ?hi9 (by kernel_rfl) (by kernel_rfl) (by kernel_rfl) (fun _ _ _ h => h) (Or.inl ⟨?w9, ?y9⟩) (by assumption) ?r9
  case hi9 => (simp only [List.getElem?_toArray, List.getElem?_cons_succ, List.getElem?_cons_zero]; try rfl)
  case w9 => rfl
  case y9 => (intro w hSw; (try dsimp only at hSw); go_simp; (try with_reducible rfl))
  (try simp only [Act.put, List.setIfInBounds_toArray, List.set_cons_zero, List.set_cons_succ])
  refine wpAnyH_take (i := 10) (oi := ?o10) (v := ?v10) ?hi10 (by kernel_rfl) (by kernel_rfl) (by kernel_rfl) (fun _ _ _ h => h) (Or.inl ⟨?w10, ?y10⟩) (by assumption) ?r10
  case hi10 => (simp only [List.getElem?_toArray, List.getElem?_cons_succ, List.getElem?_cons_zero]; try rfl)
  case w10 => rfl
  case y10 => (intro w hSw; (try dsimp only at hSw); go_simp; (try with_reducible rfl))
  (try simp only [Act.put, List.setIfInBounds_toArray, List.set_cons_zero, List.set_cons_succ])
  refine wpAnyH_done (by kernel_rfl) ?_ _
  refine NoPanic.normal ?_
  go_wp2_with fail
  go_ret
  exact ⟨rfl, (K1.out.trans' HKC.out).trans' KB.out⟩
theorem tells_any (ao : Option Addr) (m cp : Nat) (l : List UInt8) (w : World) (h : SlB w ao cp l) (hn : l.length = m) (hb : ∀ g, blockOf ao = some g → g < w.heap.size) :
    Calls Tryz.prog 17 #[.slice ao m cp] w fun e w' => e = .returned (.bool true) ∧ Keep NoF w w' := by
  cases hd : decW l with
  | false => exact tells_bad ao m cp l w h hn hb hd
  | true => exact tells_ok ao m cp l w h hn hb hd
end Go.Proofs.YtlabhbjampkhpaaGreat
