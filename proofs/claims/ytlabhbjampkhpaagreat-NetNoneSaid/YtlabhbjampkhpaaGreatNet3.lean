/- A net's Take, Twice; no net. -/
import Derived.Test.YtlabhbjampkhpaaGreatNet2
open Go Go.RowKit Go.Maps Go.Sort Go.Shelf
namespace Go.Proofs.YtlabhbjampkhpaaGreat
theorem erase_map {α β : Type} (f : α → β) : ∀ (l : List α) (i : Nat), (l.map f).eraseIdx i = (l.eraseIdx i).map f
  | [], i => by simp
  | a :: l, 0 => by simp
  | a :: l, i + 1 => by simp [erase_map f l i]
def TakePost (w : World) (F : Nat → Prop) (nb : Nat) (ps : List PackV) (i : Int) (e : Ending) (w' : World) : Prop :=
  e = .returned (.tuple #[packVal (lookP ps i), .bool (inP ps i)]) ∧ NetW w' (Wid F w w') nb (takeP ps i) ∧ Keep F w w'
theorem wid_step {w w2 w3 w4 : World} {F : Nat → Prop} {nb : Nat} {ps : List PackV} (h : NetW w3 (Wid F w2 w3) nb ps) (h1 : w.heap.size ≤ w2.heap.size) (h2 : w3.heap.size ≤ w4.heap.size) (hF : ∀ k, F k → k < w.heap.size) {G : Nat → Prop} (hk : Keep G w3 w4) (hG : ∀ k, Wid F w2 w3 k → ¬ G k) (h3 : w.heap.size ≤ w4.heap.size) : NetW w4 (Wid F w w4) nb ps := by
  obtain ⟨b, v, l, h⟩ := h
  exact ⟨b, v, l, (h.keep hk hG).mono_F (fun k e => e.elim .inl (fun e => .inr ⟨by omega, by omega⟩)) (fun k e => e.elim (fun e => by have := hF k e; omega) (fun e => e.2))⟩
set_option maxHeartbeats 4000000 in
set_option maxRecDepth 8000 in
theorem take_no (q : Option Addr) (i : Int) (w : World) (hL : ∀ W, Keep NoF w W → Calls Tryz.prog 24 #[.pointer q, .int .i64 i] W fun e w' => e = .returned (.tuple #[packVal PackV.zero, .bool false]) ∧ Keep NoF W w') :
    Calls Tryz.prog 25 #[.pointer q, .int .i64 i] w fun e w' => e = .returned (.tuple #[packVal PackV.zero, .bool false]) ∧ Keep NoF w w' := by
  have HLK0 : Hid (∀ W, Keep NoF w W → Calls Tryz.prog 24 #[.pointer q, .int .i64 i] W fun e w' => e = .returned (.tuple #[.agg #[.int .i64 0, .int .i64 0, .int .i64 0, .int .i64 0, .int .i64 0, .bool false], .bool false]) ∧ Keep NoF W w') := Lib.hid hL
  clear hL
  go_enter Tryz.func25, Tryz.ntmps25
  go_upto_region 1 with fail
  show Code.wp _ _ _ _ (w.alloc (.cells (pkC 0 0 0 0 0 false) 23 (0, 0)))
  have hZ := heap_new w (.cells (pkC 0 0 0 0 0 false) 23 (0, 0))
  have ka := keep_alloc w (.cells (pkC 0 0 0 0 0 false) 23 (0, 0))
  have hsz : (w.alloc (.cells (pkC 0 0 0 0 0 false) 23 (0, 0))).heap.size = w.heap.size + 1 := by simp
  obtain ⟨Z, hz0⟩ : ∃ Z, w.heap.size = Z := ⟨_, rfl⟩
  rw [hz0] at hZ hsz
  generalize w.alloc (.cells (pkC 0 0 0 0 0 false) 23 (0, 0)) = W0 at hZ ka hsz ⊢
  rw [hz0]
  have HZ := Lib.hid hZ; have KA := Lib.hid ka; have HZL := Lib.hid hz0; have HSZ := Lib.hid hsz
  clear hZ ka hz0 hsz
  go_wp2_with fail
  refine (HLK0.out W0 KA.out).mono ?_
  rintro e w1 ⟨rfl, hk⟩
  have hZ1 : w1.heap[Z]? = some (.cells (pkC 0 0 0 0 0 false) 23 (0, 0)) := by rw [hk.block _ (lt_of_heap HZ.out) (fun f => f)]; exact HZ.out
  have HZ1 := Lib.hid hZ1; have HK := Lib.hid (KA.out.trans' hk)
  have hsx : Z < w1.heap.size := lt_of_heap hZ1
  have HSX := Lib.hid hsx
  clear hk hZ1 hsx
  obtain ⟨X, hX⟩ : ∃ X, w1.heap.size = X := ⟨_, rfl⟩
  go_upto_region 4 with fail
  have h6 := heap_new w1 (.cells (pkC 0 0 0 0 0 false) 23 (0, 0))
  rw [hX] at h6
  have hka : Keep NoF w1 (w1.alloc (.cells (pkC 0 0 0 0 0 false) 23 (0, 0))) := keep_alloc _ _
  show Code.wp _ _ _ _ (w1.alloc (.cells (pkC 0 0 0 0 0 false) 23 (0, 0)))
  generalize w1.alloc (.cells (pkC 0 0 0 0 0 false) 23 (0, 0)) = WA at h6 hka ⊢
  have hZ9 : WA.heap[Z]? = some (.cells (pkC 0 0 0 0 0 false) 23 (0, 0)) := by rw [hka.block _ (lt_of_heap HZ1.out) (fun f => f)]; exact HZ1.out
  have y0 := free_of_heap hZ9 0
  have y1 := free_of_heap hZ9 1
  have y2 := free_of_heap hZ9 2
  have y3 := free_of_heap hZ9 3
  have y4 := free_of_heap hZ9 4
  have y5 := free_of_heap hZ9 5
  have z0 := cell_of_heap hZ9 0
  have z1 := cell_of_heap hZ9 1
  have z2 := cell_of_heap hZ9 2
  have z3 := cell_of_heap hZ9 3
  have z4 := cell_of_heap hZ9 4
  have z5 := cell_of_heap hZ9 5
  have q0 := cell_of_heap h6 0
  have q1 := cell_of_heap h6 1
  have q2 := cell_of_heap h6 2
  have q3 := cell_of_heap h6 3
  have q4 := cell_of_heap h6 4
  have q5 := cell_of_heap h6 5
  simp [pkC] at z0 z1 z2 z3 z4 z5 q0 q1 q2 q3 q4 q5
  have hp6 := pk_set hZ9 (HK.out.trans' hka) (Nat.le_of_eq HZL.out) 0 0 0 0 0 false
  have HP6 := Lib.hid hp6
  clear hZ9 hp6 h6 hka hX
  go_wp2_with fail
  refine bodyPost_ret (results_pk rfl _ _ Z _ _ _ rfl HP6.out.1 rfl) rfl ?_
  exact ⟨rfl, HP6.out.2⟩
theorem take_out (F : Nat → Prop) (nb : Nat) (ps : List PackV) (i : Int) (w : World) (h : NetW w F nb ps) (hi : -9223372036854775808 ≤ i ∧ i ≤ 9223372036854775807) (hin : inP ps i = false) :
    Calls Tryz.prog 25 #[.pointer (some ⟨nb, 0, none⟩), .int .i64 i] w (TakePost w F nb ps i) := by
  refine (take_no (some ⟨nb, 0, none⟩) i w fun W hW => ?_).mono ?_
  · have h1 := look_any F nb ps i W (h.keep hW (fun _ _ f => f)) hi
    unfold LookPost at h1
    rw [(atP_out hin).2, hin] at h1
    exact h1
  · rintro e w' ⟨rfl, hk⟩
    unfold TakePost takeP
    rw [(atP_out hin).2, hin]
    exact ⟨rfl, (h.keep hk (fun _ _ f => f)).wid, hk.mono (fun _ _ f => f.elim)⟩
set_option maxHeartbeats 8000000 in
set_option maxRecDepth 8000 in
theorem take_in (F : Nat → Prop) (nb : Nat) (ps : List PackV) (i : Int) (w : World) (h : NetW w F nb ps) (hi : -9223372036854775808 ≤ i ∧ i ≤ 9223372036854775807) (hin : inP ps i = true) :
    Calls Tryz.prog 25 #[.pointer (some ⟨nb, 0, none⟩), .int .i64 i] w (TakePost w F nb ps i) := by
  obtain ⟨hlt, hat, hlk, hi0⟩ := atP_in hin
  have HLK : Hid (∀ W, NetW W F nb ps → Calls Tryz.prog 24 #[.pointer (some ⟨nb, 0, none⟩), .int .i64 i] W fun e w' => e = .returned (.tuple #[packVal ps[i.toNat], .bool true]) ∧ Keep NoF W w') := Lib.hid fun W hW => by
    have h1 := look_any F nb ps i W hW hi
    unfold LookPost at h1
    rw [hlk, hin] at h1
    exact h1
  obtain ⟨ps', hps'⟩ : ∃ q, ps.eraseIdx i.toNat = q := ⟨_, rfl⟩
  have hp : TakePost w F nb ps i = fun e w' => e = .returned (.tuple #[packVal ps[i.toNat], .bool true]) ∧ NetW w' (Wid F w w') nb ps' ∧ Keep F w w' := by
    unfold TakePost takeP
    rw [hlk, hin, if_pos rfl, hps']
  rw [hp]
  obtain ⟨b, vb, l, h⟩ := h
  obtain ⟨b1, b2, b3⟩ := h.bounds
  have hgp := h.gp _ (List.getElem_mem hlt)
  have hex : (expS l)[i.toNat]? = some (encP ps[i.toNat]) := by rw [h.exp, List.getElem?_map, List.getElem?_eq_getElem hlt]; rfl
  generalize ps[i.toNat] = p at HLK hgp hex ⊢
  have HAD : Hid (∀ W, NetR W F nb b vb l ps → Calls Tryz.prog 47 #[.pointer (some ⟨b, 0, none⟩), .string (encP p), .int .i64 (-1)] W (AddWS cmpS W b 46 #[] vb l (encP p) (-1))) :=
    Lib.hid fun W hW => addCS_any b vb l (encP p) (-1) W hW.bag b1 (sort_monoS cmpS_key hW.good.srt hW.good.ok (encP_ok p)) b2 (by decide)
  have HPL : Hid (GoodL (addWS cmpS l (encP p) (-1)) ∧ expS (addWS cmpS l (encP p) (-1)) = ps'.map encP ∧ (∀ q ∈ ps', GoodP q) ∧ ps'.length ≤ 400) := Lib.hid
    ⟨add_good h.good (encP_ok p) (-1), by rw [add_less h.good (encP_ok p) hex, h.exp, ← hps', erase_map], fun q hq => h.gp q (List.mem_of_mem_eraseIdx (hps' ▸ hq)), by rw [← hps']; exact Nat.le_trans (List.length_eraseIdx_le ..) h.le⟩
  have HE := Lib.hid (fun W => wenc_ok p W hgp.1 hgp.2)
  have hnw : NetW w F nb ps := ⟨b, vb, l, h⟩
  have H := Lib.hid hnw; have HR0 := Lib.hid h
  clear h hi hin hp hnw hlt hat hlk hi0 b1 b2 b3 hgp hex hps'
  have henc : encP p = bstr (wireB p) := rfl
  rw [henc] at HAD HPL
  obtain ⟨xk, xf, xt, xd, xn, xy⟩ := p
  unfold packVal at HE HLK ⊢
  simp only at HE HLK ⊢
  obtain ⟨A, hA⟩ : ∃ A, wireB (⟨xk, xf, xt, xd, xn, xy⟩ : PackV) = A := ⟨_, rfl⟩
  rw [hA] at HE HAD HPL
  clear henc hA
  go_enter Tryz.func25, Tryz.ntmps25
  go_upto_region 1 with fail
  show Code.wp _ _ _ _ (w.alloc (.cells (pkC 0 0 0 0 0 false) 23 (0, 0)))
  have hZ := heap_new w (.cells (pkC 0 0 0 0 0 false) 23 (0, 0))
  have ka := keep_alloc w (.cells (pkC 0 0 0 0 0 false) 23 (0, 0))
  have hsz : (w.alloc (.cells (pkC 0 0 0 0 0 false) 23 (0, 0))).heap.size = w.heap.size + 1 := by simp
  obtain ⟨Z, hz0⟩ : ∃ Z, w.heap.size = Z := ⟨_, rfl⟩
  rw [hz0] at hZ hsz
  generalize w.alloc (.cells (pkC 0 0 0 0 0 false) 23 (0, 0)) = W0 at hZ ka hsz ⊢
  rw [hz0]
  have HZ := Lib.hid hZ; have KA := Lib.hid ka; have HZL := Lib.hid hz0; have HSZ := Lib.hid hsz
  clear hZ ka hz0 hsz
  go_wp2_with fail
  refine (HLK.out W0 (H.out.keep KA.out (fun _ _ f => f))).mono ?_
  rintro e w1 ⟨rfl, hk⟩
  have hZ1 : w1.heap[Z]? = some (.cells (pkC 0 0 0 0 0 false) 23 (0, 0)) := by rw [hk.block _ (lt_of_heap HZ.out) (fun f => f)]; exact HZ.out
  have HZ1 := Lib.hid hZ1; have HK := Lib.hid (KA.out.trans' hk)
  have hsx : Z < w1.heap.size := lt_of_heap hZ1
  have HSX := Lib.hid hsx
  clear hk hZ1 hsx
  obtain ⟨X, hX⟩ : ∃ X, w1.heap.size = X := ⟨_, rfl⟩
  go_upto_region 3 with fail
  have h6 := heap_new w1 (.cells (pkC xk xf xt xd xn xy) 23 (0, 0))
  rw [hX] at h6
  have hka : Keep NoF w1 (w1.alloc (.cells (pkC xk xf xt xd xn xy) 23 (0, 0))) := keep_alloc _ _
  show Code.wp _ _ _ _ (w1.alloc (.cells (pkC xk xf xt xd xn xy) 23 (0, 0)))
  generalize w1.alloc (.cells (pkC xk xf xt xd xn xy) 23 (0, 0)) = WA at h6 hka ⊢
  have hZ9 : WA.heap[Z]? = some (.cells (pkC 0 0 0 0 0 false) 23 (0, 0)) := by rw [hka.block _ (lt_of_heap HZ1.out) (fun f => f)]; exact HZ1.out
  have HX6 := Lib.hid h6; have HZ9 := Lib.hid hZ9; have KW := Lib.hid (HK.out.trans' hka)
  have HN := Lib.hid (HR0.out.keep KW.out (fun _ _ f => f))
  have HXL : Hid (w.heap.size ≤ X ∧ Z ≠ X) := Lib.hid ⟨by have := HK.out.size; omega, by have := HSX.out; omega⟩
  have HC : Hid (∀ W : World, W.heap[nb]? = WA.heap[nb]? → W.heap[X]? = WA.heap[X]? → W.cell? ⟨nb, 0, none⟩ = some (.pointer (some ⟨b, 0, none⟩)) ∧ W.cell? ⟨X, 0, none⟩ = some (.int .i64 xk) ∧ W.cell? ⟨X, 1, none⟩ = some (.int .i64 xf) ∧ W.cell? ⟨X, 2, none⟩ = some (.int .i64 xt) ∧ W.cell? ⟨X, 3, none⟩ = some (.int .i64 xd) ∧ W.cell? ⟨X, 4, none⟩ = some (.int .i64 xn) ∧ W.cell? ⟨X, 5, none⟩ = some (.bool xy)) := Lib.hid fun W h1 h2 => by
    have e1 := h1.trans HN.out.row
    have e2 := h2.trans HX6.out
    refine ⟨?_, ?_, ?_, ?_, ?_, ?_, ?_⟩
    · rw [cell_of_heap e1]; rfl
    all_goals (rw [cell_of_heap e2]; rfl)
  have hk0 := HC.out WA.drew rfl rfl
  have HK0 := Lib.hid hk0
  clear hk0 h6 hZ9 hka hX
  refine wp_region_noPanic ?_
  refine wp_region_held_drew (S := (fun W' : World => W'.cell? ⟨nb, 0, none⟩ = some (.pointer (some ⟨b, 0, none⟩)) ∧ W'.cell? ⟨X, 0, none⟩ = some (.int .i64 xk) ∧ W'.cell? ⟨X, 1, none⟩ = some (.int .i64 xf) ∧ W'.cell? ⟨X, 2, none⟩ = some (.int .i64 xt) ∧ W'.cell? ⟨X, 3, none⟩ = some (.int .i64 xd) ∧ W'.cell? ⟨X, 4, none⟩ = some (.int .i64 xn) ∧ W'.cell? ⟨X, 5, none⟩ = some (.bool xy))) (by kernel_rfl) (HK0.out) (fun hHeld => ?_)
  refine wpAnyH_take (i := 0) (oi := ?o0) (v := ?v0) ?hi0 (by kernel_rfl) (by kernel_rfl) (by kernel_rfl) (fun _ _ _ h => h) (Or.inl ⟨?w0, ?y0⟩) (by assumption) ?r0
  case hi0 => (simp only [List.getElem?_toArray, List.getElem?_cons_zero]; try rfl)
  case w0 => rfl
  case y0 => (intro w hSw; (try dsimp only at hSw); go_simp; (try with_reducible rfl))
  (try simp only [Act.put, List.setIfInBounds_toArray, List.set_cons_zero, List.set_cons_succ])
  refine wpAnyH_take (i := 1) (oi := ?o1) (v := ?v1) ?hi1 (by kernel_rfl) (by kernel_rfl) (by kernel_rfl) (fun _ _ _ h => h) (Or.inl ⟨?w1, ?y1⟩) (by assumption) ?r1
  case hi1 => (simp only [List.getElem?_toArray, List.getElem?_cons_succ, List.getElem?_cons_zero]; try rfl)
  case w1 => rfl
  case y1 => (intro w hSw; (try dsimp only at hSw); go_simp; (try with_reducible rfl))
  (try simp only [Act.put, List.setIfInBounds_toArray, List.set_cons_zero, List.set_cons_succ])
  refine wpAnyH_take (i := 2) (oi := ?o2) (v := ?v2) ?hi2 (by kernel_rfl) (by kernel_rfl) (by kernel_rfl) (fun _ _ _ h => h) (Or.inl ⟨?w2, ?y2⟩) (by assumption) ?r2
  case hi2 => (simp only [List.getElem?_toArray, List.getElem?_cons_succ, List.getElem?_cons_zero]; try rfl)
  case w2 => rfl
  case y2 => (intro w hSw; (try dsimp only at hSw); go_simp; (try with_reducible rfl))
  (try simp only [Act.put, List.setIfInBounds_toArray, List.set_cons_zero, List.set_cons_succ])
  refine wpAnyH_take (i := 3) (oi := ?o3) (v := ?v3) ?hi3 (by kernel_rfl) (by kernel_rfl) (by kernel_rfl) (fun _ _ _ h => h) (Or.inl ⟨?w3, ?y3⟩) (by assumption) ?r3
  case hi3 => (simp only [List.getElem?_toArray, List.getElem?_cons_succ, List.getElem?_cons_zero]; try rfl)
  case w3 => rfl
  case y3 => (intro w hSw; (try dsimp only at hSw); go_simp; (try with_reducible rfl))
  (try simp only [Act.put, List.setIfInBounds_toArray, List.set_cons_zero, List.set_cons_succ])
  refine wpAnyH_take (i := 4) (oi := ?o4) (v := ?v4) ?hi4 (by kernel_rfl) (by kernel_rfl) (by kernel_rfl) (fun _ _ _ h => h) (Or.inl ⟨?w4, ?y4⟩) (by assumption) ?r4
  case hi4 => (simp only [List.getElem?_toArray, List.getElem?_cons_succ, List.getElem?_cons_zero]; try rfl)
  case w4 => rfl
  case y4 => (intro w hSw; (try dsimp only at hSw); go_simp; (try with_reducible rfl))
  (try simp only [Act.put, List.setIfInBounds_toArray, List.set_cons_zero, List.set_cons_succ])
  refine wpAnyH_ready (rs := [5]) (by kernel_rfl) (by simp) ?_
  refine AllReadyH.cons (o := ?o5) ?hi5 (fun K hK => ?_) AllReadyH.nil
  case hi5 => (simp only [List.getElem?_toArray, List.getElem?_cons_succ, List.getElem?_cons_zero]; try rfl)
  go_simp
  (go_at_call 15; refine (HE.out _).mono ?_; rintro e w2 ⟨v9, rfl, hv9, hk2, hg9⟩; obtain ⟨ao9, cp9, rfl, hs9, _⟩ := hv9.slb; have K2 : Hid (Keep NoF WA w2) := Lib.hid hk2.of_drew; have hvc := conv_at hs9 rfl; have HQ2 := Lib.hid (And.intro (K2.out.block nb (lt_of_heap HN.out.row) (fun f => f)) (K2.out.block X (lt_of_heap HX6.out) (fun f => f))); have HN2 := Lib.hid (HN.out.keep K2.out (fun _ _ f => f)); clear hs9 hv9 hk2 hg9)
  go_wp2_with fail
  refine hK.out _ _ (HC.out _ HQ2.out.1 HQ2.out.2) (fun hHeld => ?_)
  clear hK K
  (try simp only [Act.put, List.setIfInBounds_toArray, List.set_cons_zero, List.set_cons_succ])
  refine wpAnyH_ready (rs := [6]) (by kernel_rfl) (by simp) ?_
  refine AllReadyH.cons (o := ?o6) ?hi6 (fun K hK => ?_) AllReadyH.nil
  case hi6 => (simp only [List.getElem?_toArray, List.getElem?_cons_succ, List.getElem?_cons_zero]; try rfl)
  go_simp
  refine hK.out _ _ (HC.out _ HQ2.out.1 HQ2.out.2) (fun hHeld => ?_)
  clear hK K
  (try simp only [Act.put, List.setIfInBounds_toArray, List.set_cons_zero, List.set_cons_succ])
  refine wpAnyH_ready (rs := [7]) (by kernel_rfl) (by simp) ?_
  refine AllReadyH.cons (o := ?o7) ?hi7 (fun K hK => ?_) AllReadyH.nil
  case hi7 => (simp only [List.getElem?_toArray, List.getElem?_cons_succ, List.getElem?_cons_zero]; try rfl)
  go_simp
  (go_at_call 47; refine (HAD.out _ HN2.out).mono ?_; rintro e w3 ⟨v3, rfl, hB3, hk3, hf3⟩; have hr := HN2.out.add hB3 hk3 hf3 HPL.out.1 HPL.out.2.1 HPL.out.2.2.1 HPL.out.2.2.2; have HR := Lib.hid hr; have HQ := Lib.hid (And.intro ((hk3.block nb (lt_of_heap HN2.out.row) (fun e => e.elim HN2.out.nbb HN2.out.nv)).trans HQ2.out.1) (And.intro ((hr.2.block X (by have := lt_of_heap HX6.out; have := K2.out.size; omega) (fun e => by have := HR0.out.lt X e; have := HXL.out.1; omega)).trans HQ2.out.2) ((hr.2.block Z (by have := lt_of_heap HZ9.out; have := K2.out.size; omega) (fun e => by have := HR0.out.lt Z e; have := HZL.out; omega)).trans (K2.out.block Z (lt_of_heap HZ9.out) (fun f => f))))); clear hB3 hk3 hf3 hr hvc)
  go_wp2_with fail
  refine hK.out _ _ (HC.out _ HQ.out.1 HQ.out.2.1) (fun hHeld => ?_)
  clear hK K
  (try simp only [Act.put, List.setIfInBounds_toArray, List.set_cons_zero, List.set_cons_succ])
  refine wpAnyH_done (by kernel_rfl) ?_ _
  refine NoPanic.normal ?_
  all_goals
    have hZ3 : w3.heap[Z]? = some (.cells (pkC 0 0 0 0 0 false) 23 (0, 0)) := HQ.out.2.2.trans HZ9.out
    have hX3 : w3.heap[X]? = some (.cells (pkC xk xf xt xd xn xy) 23 (0, 0)) := HQ.out.2.1.trans HX6.out
    have y0 := free_of_heap hZ3 0
    have y1 := free_of_heap hZ3 1
    have y2 := free_of_heap hZ3 2
    have y3 := free_of_heap hZ3 3
    have y4 := free_of_heap hZ3 4
    have y5 := free_of_heap hZ3 5
    have z0 := cell_of_heap hZ3 0
    have z1 := cell_of_heap hZ3 1
    have z2 := cell_of_heap hZ3 2
    have z3 := cell_of_heap hZ3 3
    have z4 := cell_of_heap hZ3 4
    have z5 := cell_of_heap hZ3 5
    have q0 := cell_of_heap hX3 0
    have q1 := cell_of_heap hX3 1
    have q2 := cell_of_heap hX3 2
    have q3 := cell_of_heap hX3 3
    have q4 := cell_of_heap hX3 4
    have q5 := cell_of_heap hX3 5
    simp [pkC] at z0 z1 z2 z3 z4 z5 q0 q1 q2 q3 q4 q5
    have hp6 := set6 hZ3 (.int .i64 xk) (.int .i64 xf) (.int .i64 xt) (.int .i64 xd) (.int .i64 xn) (.bool xy)
    have HP6 := Lib.hid hp6
    clear hZ3 hX3 hp6
    go_wp2_with fail
    refine bodyPost_ret (results_pk rfl _ _ Z _ _ _ rfl HP6.out.1 rfl) rfl ?_
    have s1 := KW.out.size; have s2 := K2.out.size; have s3 := HR.out.2.size; have s4 := HP6.out.2.size
    have s5 := HZL.out; have s6 := lt_of_heap HZ9.out
    refine ⟨rfl, wid_step ⟨_, _, _, HR.out.1⟩ (by omega) s4 HR0.out.lt HP6.out.2 (fun k e e2 => ?_) (by omega), ?_⟩
    · subst e2
      rcases e with e | e
      · have := HR0.out.lt k e; omega
      · omega
    · exact ((KW.out.trans' K2.out).trans HR.out.2 (fun _ _ f => f.elim) (fun _ _ f => f)).trans HP6.out.2 (fun _ _ f => f) (fun k hk e => by omega)
theorem take_any (F : Nat → Prop) (nb : Nat) (ps : List PackV) (i : Int) (w : World) (h : NetW w F nb ps) (hi : -9223372036854775808 ≤ i ∧ i ≤ 9223372036854775807) :
    Calls Tryz.prog 25 #[.pointer (some ⟨nb, 0, none⟩), .int .i64 i] w (TakePost w F nb ps i) := by
  cases hin : inP ps i with
  | false => exact take_out F nb ps i w h hi hin
  | true => exact take_in F nb ps i w h hi hin
end Go.Proofs.YtlabhbjampkhpaaGreat
