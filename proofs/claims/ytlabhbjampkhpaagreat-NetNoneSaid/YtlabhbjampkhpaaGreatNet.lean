/- A net's New, Len, Send. -/
import Derived.Test.YtlabhbjampkhpaaGreatNetP
import Derived.Test.YtlabhbjampkhpaaGreatWDec
open Go Go.RowKit Go.Maps Go.Sort Go.Shelf
namespace Go.Proofs.YtlabhbjampkhpaaGreat
def NewNet (w : World) (e : Ending) (w' : World) : Prop :=
  ∃ nb F, e = .returned (.pointer (some ⟨nb, 0, none⟩)) ∧ NetW w' F nb [] ∧ Keep NoF w w' ∧ ∀ k, F k → w.heap.size ≤ k
theorem netnew_any (w : World) : Calls Tryz.prog 20 #[] w (NewNet w) := by
  go_enter Tryz.func20, Tryz.ntmps20
  go_wp2_with fail
  refine (newS_any 46 #[] w).mono ?_
  rintro e w1 ⟨b, rfl, hB, hk, hb⟩
  have hlt := lt_of_heap hB.row
  have hs := hk.size
  have hR := heap_new w1 (.cells #[.pointer (some ⟨b, 0, none⟩)] 74 (0, 0))
  have ka := keep_alloc w1 (.cells #[.pointer (some ⟨b, 0, none⟩)] 74 (0, 0))
  have hN : NetR (w1.alloc (.cells #[.pointer (some ⟨b, 0, none⟩)] 74 (0, 0))) (fun k => w.heap.size ≤ k ∧ k < (w1.alloc (.cells #[.pointer (some ⟨b, 0, none⟩)] 74 (0, 0))).heap.size) w1.heap.size b (.slice none 0 0) [] [] :=
    ⟨hR, hB.keep ka (fun f => f) (fun _ _ f => f), GoodL.nil, rfl, by simp, by simp, by omega, nofun, ⟨hs, lt_of_heap hR⟩, ⟨hb, by have := ka.size; omega⟩, nofun, fun k hk => hk.2⟩
  have HN := Lib.hid hN; have K := Lib.hid (hk.trans' ka)
  clear hN hR hB hk ka hlt hs
  go_wp2_with fail
  go_ret
  exact ⟨_, _, rfl, ⟨_, _, _, HN.out⟩, K.out, fun k hk => hk.1⟩
theorem netlen_any (F : Nat → Prop) (nb : Nat) (ps : List PackV) (w : World) (h : NetW w F nb ps) :
    Calls Tryz.prog 26 #[.pointer (some ⟨nb, 0, none⟩)] w fun e w' => e = .returned (.int .i64 (ps.length : Nat)) ∧ w' = w := by
  obtain ⟨b, v, l, h⟩ := h
  obtain ⟨b1, b2, b3⟩ := h.bounds
  have hl := lenS_any b _ #[] v l w h.bag b1 b2
  rw [b3] at hl
  have c0 := cell_of_heap h.row 0
  simp at c0
  have HL := Lib.hid hl
  generalize ps.length = N at HL ⊢
  clear hl h b1 b2 b3
  go_enter Tryz.func26, Tryz.ntmps26
  go_wp2_with fail
  refine HL.out.mono ?_
  rintro e w' ⟨rfl, rfl⟩
  go_wp2_with fail
  go_ret
  exact ⟨rfl, rfl⟩
theorem eqSl (a : Option Addr) (n cp : Nat) (w : World) : (binOp .eql 24 (.slice a n cp) (.slice none 0 0)).run Tryz.prog w = .ok (.bool a.isNone) w := Lib.run_eql_slice_nil w 24 5 a n cp 0 0 Tryz.underlying24
def SendPost (w : World) (F : Nat → Prop) (nb : Nat) (p : PackV) (ps : List PackV) (e : Ending) (w' : World) : Prop :=
  e = .returned (.bool (sentB p ps)) ∧ NetW w' (Wid F w w') nb (sendP p ps) ∧ Keep F w w'
set_option maxHeartbeats 1000000 in
set_option maxRecDepth 8000 in
theorem send_bad (F : Nat → Prop) (nb : Nat) (p : PackV) (ps : List PackV) (w : World) (h : NetW w F nb ps) (hp : p.Ok) (hb : packB p = false) :
    Calls Tryz.prog 21 #[.pointer (some ⟨nb, 0, none⟩), packVal p] w (SendPost w F nb p ps) := by
  have hs : sentB p ps = false := by unfold sentB; rw [hb]; rfl
  have hs2 : sendP p ps = ps := by unfold sendP; rw [hs]; rfl
  have HE := Lib.hid (fun W => wenc_bad p W hp hb)
  have H := Lib.hid h; have HS := Lib.hid hs; have HS2 := Lib.hid hs2
  clear h hs hs2 hp hb
  obtain ⟨k, f, t, d, n, y⟩ := p
  unfold packVal at HE ⊢
  simp only at HE ⊢
  go_enter Tryz.func21, Tryz.ntmps21
  go_wp2_with fail
  refine (HE.out _).mono ?_
  rintro e w1 ⟨rfl, hk1⟩
  have K1 := Lib.hid ((keep_alloc w _).trans' hk1); clear hk1
  have heq := eqSl none 0 0 w1
  simp only [Option.isNone_none] at heq
  go_wp2_with fail
  go_ret
  exact ⟨by rw [HS.out]; rfl, by rw [HS2.out]; exact (H.out.keep K1.out (fun _ _ f => f)).wid, K1.out.mono fun _ _ f => f.elim⟩
set_option maxHeartbeats 2000000 in
set_option maxRecDepth 8000 in
theorem send_full (F : Nat → Prop) (nb : Nat) (p : PackV) (ps : List PackV) (w : World) (h : NetW w F nb ps) (hp : p.Ok) (hb : packB p = true) (hf : ¬ ps.length < 400) :
    Calls Tryz.prog 21 #[.pointer (some ⟨nb, 0, none⟩), packVal p] w (SendPost w F nb p ps) := by
  have hs : sentB p ps = false := by unfold sentB; rw [hb]; simp; omega
  have hs2 : sendP p ps = ps := by unfold sendP; rw [hs]; rfl
  have HE := Lib.hid (fun W => wenc_ok p W hp hb)
  have hwl := wireB_length p
  have H := Lib.hid h; have HS := Lib.hid hs; have HS2 := Lib.hid hs2; have HWL := Lib.hid hwl
  clear h hs hs2 hp hb hwl
  obtain ⟨k, f, t, d, n, y⟩ := p
  unfold packVal at HE ⊢
  simp only at HE ⊢
  go_enter Tryz.func21, Tryz.ntmps21
  go_wp2_with fail
  refine (HE.out _).mono ?_
  rintro e w1 ⟨v, rfl, hv, hk1, hvn⟩
  obtain ⟨ao, cp, rfl, hsl, hbo⟩ := hv.slb
  rw [HWL.out]
  obtain ⟨g, o, rfl, _⟩ := hsl.2.2 0 (by rw [HWL.out]; omega)
  have K1 := Lib.hid ((keep_alloc w _).trans' hk1)
  have HN := Lib.hid (H.out.keep K1.out (fun _ _ f => f))
  clear hk1 hsl hbo hv hvn
  have HLEN := Lib.hid (netlen_any F nb ps w1 HN.out)
  obtain ⟨L, hL⟩ : ∃ L, ps.length = L := ⟨_, rfl⟩
  rw [hL] at HLEN hf
  clear hL
  have heq := eqSl (some ⟨g, o, none⟩) 21 cp w1
  simp only [Option.isNone_some] at heq
  have hd : decide ((400 : Int) ≤ L) = true := by simp; omega
  have hi : (400 : Int) ≤ L := by omega
  go_wp2_with fail
  refine HLEN.out.mono ?_
  rintro e w2 ⟨rfl, hw⟩
  obtain rfl : w1 = w2 := hw.symm
  go_wp2_with fail
  go_ret
  exact ⟨by rw [HS.out]; rfl, by rw [HS2.out]; exact HN.out.wid, K1.out.mono fun _ _ f => f.elim⟩
set_option maxHeartbeats 4000000 in
set_option maxRecDepth 8000 in
theorem send_in (F : Nat → Prop) (nb : Nat) (p : PackV) (ps : List PackV) (w : World) (h : NetW w F nb ps) (hp : p.Ok) (hb : packB p = true) (hf : ps.length < 400) :
    Calls Tryz.prog 21 #[.pointer (some ⟨nb, 0, none⟩), packVal p] w (SendPost w F nb p ps) := by
  have hs : sentB p ps = true := by unfold sentB; rw [hb]; simp; omega
  have hs2 : sendP p ps = insP p ps := by unfold sendP; rw [hs]; rfl
  have HE := Lib.hid (fun W => wenc_ok p W hp hb)
  have hwl := wireB_length p
  obtain ⟨b, vb, l, h⟩ := h
  obtain ⟨b1, b2, b3⟩ := h.bounds
  have HAD : Hid (∀ W, NetR W F nb b vb l ps → Calls Tryz.prog 47 #[.pointer (some ⟨b, 0, none⟩), .string (encP p), .int .i64 1] W (AddWS cmpS W b 46 #[] vb l (encP p) 1)) :=
    Lib.hid fun W hW => addCS_any b vb l (encP p) 1 W hW.bag b1 (sort_monoS cmpS_key hW.good.srt hW.good.ok (encP_ok p)) b2 (by decide)
  have HPL : Hid (GoodL (addWS cmpS l (encP p) 1) ∧ expS (addWS cmpS l (encP p) 1) = (insP p ps).map encP ∧ (∀ q ∈ insP p ps, GoodP q) ∧ (insP p ps).length ≤ 400) := Lib.hid
    ⟨add_good h.good (encP_ok p) 1, by rw [add_one h.good (encP_ok p), ins_map, h.exp], insP_good ⟨hp, hb⟩ h.gp, by rw [insP_length]; omega⟩
  have H := Lib.hid h; have HS := Lib.hid hs; have HS2 := Lib.hid hs2; have HWL := Lib.hid hwl
  clear h hs hs2 hp hb hwl b1 b2 b3
  have henc : encP p = bstr (wireB p) := rfl
  rw [henc] at HAD HPL
  obtain ⟨k, f, t, d, n, y⟩ := p
  unfold packVal at HE ⊢
  simp only at HE ⊢
  obtain ⟨A, hA⟩ : ∃ A, wireB (⟨k, f, t, d, n, y⟩ : PackV) = A := ⟨_, rfl⟩
  rw [hA] at HE HAD HPL HWL
  clear henc hA
  go_enter Tryz.func21, Tryz.ntmps21
  go_wp2_with fail
  refine (HE.out _).mono ?_
  rintro e w1 ⟨v, rfl, hv, hk1, hvn⟩
  obtain ⟨ao, cp, rfl, hsl, hbo⟩ := hv.slb
  have HSL := Lib.hid hsl
  obtain ⟨g, o, rfl, _⟩ := hsl.2.2 0 (by rw [HWL.out]; omega)
  rw [HWL.out]
  have K1 := Lib.hid ((keep_alloc w _).trans' hk1)
  have HN := Lib.hid (H.out.keep K1.out (fun _ _ f => f))
  have hvn2 := hvn g rfl
  have HVN := Lib.hid hvn2
  clear hk1 hsl hbo hv hvn hvn2
  have HLEN := Lib.hid (netlen_any F nb ps w1 ⟨b, vb, l, HN.out⟩)
  obtain ⟨L, hL⟩ : ∃ L, ps.length = L := ⟨_, rfl⟩
  rw [hL] at HLEN hf
  clear hL
  have heq := eqSl (some ⟨g, o, none⟩) 21 cp w1
  simp only [Option.isNone_some] at heq
  have hd : decide ((400 : Int) ≤ L) = false := by simp; omega
  have hi : ¬ (400 : Int) ≤ L := by omega
  go_wp2_with fail
  refine HLEN.out.mono ?_
  rintro e w2 ⟨rfl, hw⟩
  obtain rfl : w1 = w2 := hw.symm
  go_upto_region 4 with fail
  have HGW : Hid (w.heap.size ≤ g ∧ g < w1.heap.size) := Lib.hid ⟨by have := HVN.out; simp at this; omega, by
    obtain ⟨g', o', e, hc⟩ := HSL.out.2.2 0 (by rw [HWL.out]; omega)
    obtain ⟨rfl, rfl⟩ : g = g' ∧ o = o' := by cases e; exact ⟨rfl, rfl⟩
    exact World.block_lt_of_cell? w1 _ hc⟩
  have HC : Hid (∀ W : World, W.heap[nb]? = w1.heap[nb]? → W.heap[g]? = w1.heap[g]? → W.cell? ⟨nb, 0, none⟩ = some (.pointer (some ⟨b, 0, none⟩)) ∧ (convert 24 9 (.slice (some ⟨g, o, none⟩) 21 cp)).run Tryz.prog W = .ok (.string (bstr A)) W) := Lib.hid fun W h1 h2 => by
    constructor
    · have e := h1.trans HN.out.row
      rw [cell_of_heap e]; rfl
    · refine conv_at ⟨HSL.out.1, HSL.out.2.1, fun i hi => ?_⟩ HWL.out
      obtain ⟨g', o', e, hc⟩ := HSL.out.2.2 i hi
      obtain ⟨rfl, rfl⟩ : g = g' ∧ o = o' := by cases e; exact ⟨rfl, rfl⟩
      refine ⟨g, o, rfl, ?_⟩
      rw [World.cell?_of_block (w := w1) h2]
      exact hc
  have hk0 := HC.out w1.drew rfl rfl
  have HK0 := Lib.hid hk0
  clear hk0
  refine wp_region_noPanic ?_
  refine wp_region_held_drew (S := (fun W' : World => W'.cell? ⟨nb, 0, none⟩ = some (.pointer (some ⟨b, 0, none⟩)) ∧ (convert 24 9 (.slice (some ⟨g, o, none⟩) 21 cp)).run Tryz.prog W' = .ok (.string (bstr A)) W')) (by kernel_rfl) (HK0.out) (fun hHeld => ?_)
  refine wpAnyH_take (i := 0) (oi := ?o0) (v := ?v0) ?hi0 (by kernel_rfl) (by kernel_rfl) (by kernel_rfl) (fun _ _ _ h => h) (Or.inl ⟨?w0, ?y0⟩) (by assumption) ?r0
  case hi0 => (simp only [List.getElem?_toArray, List.getElem?_cons_zero]; try rfl)
  case w0 => rfl
  case y0 => (intro w hSw; (try dsimp only at hSw); go_simp; (try with_reducible rfl))
  (try simp only [Act.put, List.setIfInBounds_toArray, List.set_cons_zero, List.set_cons_succ])
  refine wpAnyH_take (i := 1) (oi := ?o1) (v := ?v1) ?hi1 (by kernel_rfl) (by kernel_rfl) (by kernel_rfl) (fun _ _ _ h => h) (Or.inl ⟨?w1, ?y1⟩) (by assumption) ?r1
  case hi1 => (simp only [List.getElem?_toArray, List.getElem?_cons_succ, List.getElem?_cons_zero]; try rfl)
  case w1 => rfl
  case y1 => (intro w hSw; (try dsimp only at hSw); go_simp; (try with_reducible rfl))
  (try simp only [Act.put, List.setIfInBounds_toArray, List.set_cons_zero, List.set_cons_succ])
  refine wpAnyH_take (i := 2) (oi := ?o2) (v := ?v2) ?hi2 (by kernel_rfl) (by kernel_rfl) (by kernel_rfl) (fun _ _ _ h => h) (Or.inl ⟨?w2, ?y2⟩) (by assumption) ?r2
  case hi2 => (simp only [List.getElem?_toArray, List.getElem?_cons_succ, List.getElem?_cons_zero]; try rfl)
  case w2 => rfl
  case y2 => (intro w hSw; (try dsimp only at hSw); go_simp; (try with_reducible rfl))
  (try simp only [Act.put, List.setIfInBounds_toArray, List.set_cons_zero, List.set_cons_succ])
  refine wpAnyH_take (i := 3) (oi := ?o3) (v := ?v3) ?hi3 (by kernel_rfl) (by kernel_rfl) (by kernel_rfl) (fun _ _ _ h => h) (Or.inl ⟨?w3, ?y3⟩) (by assumption) ?r3
  case hi3 => (simp only [List.getElem?_toArray, List.getElem?_cons_succ, List.getElem?_cons_zero]; try rfl)
  case w3 => rfl
  case y3 => (intro w hSw; (try dsimp only at hSw); go_simp; (try with_reducible rfl))
  (try simp only [Act.put, List.setIfInBounds_toArray, List.set_cons_zero, List.set_cons_succ])
  refine wpAnyH_take (i := 4) (oi := ?o4) (v := ?v4) ?hi4 (by kernel_rfl) (by kernel_rfl) (by kernel_rfl) (fun _ _ _ h => h) (Or.inl ⟨?w4, ?y4⟩) (by assumption) ?r4
  case hi4 => (simp only [List.getElem?_toArray, List.getElem?_cons_succ, List.getElem?_cons_zero]; try rfl)
  case w4 => rfl
  case y4 => (intro w hSw; (try dsimp only at hSw); go_simp; (try with_reducible rfl))
  (try simp only [Act.put, List.setIfInBounds_toArray, List.set_cons_zero, List.set_cons_succ])
  refine wpAnyH_take (i := 5) (oi := ?o5) (v := ?v5) ?hi5 (by kernel_rfl) (by kernel_rfl) (by kernel_rfl) (fun _ _ _ h => h) (Or.inl ⟨?w5, ?y5⟩) (by assumption) ?r5
  case hi5 => (simp only [List.getElem?_toArray, List.getElem?_cons_succ, List.getElem?_cons_zero]; try rfl)
  case w5 => rfl
  case y5 => (intro w hSw; (try dsimp only at hSw); go_simp; (try with_reducible rfl))
  (try simp only [Act.put, List.setIfInBounds_toArray, List.set_cons_zero, List.set_cons_succ])
  refine wpAnyH_ready (rs := [6]) (by kernel_rfl) (by simp) ?_
  refine AllReadyH.cons (o := ?o6) ?hi6 (fun K hK => ?_) AllReadyH.nil
  case hi6 => (simp only [List.getElem?_toArray, List.getElem?_cons_succ, List.getElem?_cons_zero]; try rfl)
  go_simp
  (go_at_call 47; refine (HAD.out _ (HN.out.keep (Keep.refl NoF w1).drew (fun _ _ f => f))).mono ?_; rintro e w3 ⟨v3, rfl, hB3, hk3, hf3⟩; have HR := Lib.hid ((HN.out.keep (Keep.refl NoF w1).drew (fun _ _ f => f)).add hB3 hk3 hf3 HPL.out.1 HPL.out.2.1 HPL.out.2.2.1 HPL.out.2.2.2); have HQ := Lib.hid (And.intro (hk3.block nb (lt_of_heap HN.out.row) (fun e => e.elim HN.out.nbb HN.out.nv)) (hk3.block g HGW.out.2 (fun e => e.elim (fun e => by have := H.out.lt b H.out.fb; have := HGW.out.1; omega) (fun e => by have := H.out.lt g (H.out.fv g e); have := HGW.out.1; omega)))); clear hB3 hk3 hf3)
  go_wp2_with fail
  refine hK.out _ _ (HC.out _ HQ.out.1 HQ.out.2) (fun hHeld => ?_)
  clear hK K
  (try simp only [Act.put, List.setIfInBounds_toArray, List.set_cons_zero, List.set_cons_succ])
  refine wpAnyH_done (by kernel_rfl) ?_ _
  refine NoPanic.normal ?_
  all_goals
    go_wp2_with fail
    go_ret
    refine ⟨by rw [HS.out]; rfl, ?_, ?_⟩
    · rw [HS2.out]
      obtain ⟨h1, h2⟩ := HR.out
      have s1 := K1.out.size
      have s2 := h2.size
      have e0 : w1.drew.heap.size = w1.heap.size := rfl
      refine ⟨_, _, _, h1.mono_F (G := Wid F w w3) (fun j hj => hj.elim .inl (fun e => .inr ⟨by have e1 := e.1; omega, e.2⟩)) (fun j hj => hj.elim (fun e => by have := H.out.lt j e; omega) (fun e => e.2))⟩
    · exact K1.out.trans (HR.out.2.of_drew) (fun _ _ f => f.elim) (fun _ _ f => f)
theorem send_any (F : Nat → Prop) (nb : Nat) (p : PackV) (ps : List PackV) (w : World) (h : NetW w F nb ps) (hp : p.Ok) :
    Calls Tryz.prog 21 #[.pointer (some ⟨nb, 0, none⟩), packVal p] w (SendPost w F nb p ps) := by
  cases hb : packB p with
  | false => exact send_bad F nb p ps w h hp hb
  | true =>
    by_cases hf : ps.length < 400
    · exact send_in F nb p ps w h hp hb hf
    · exact send_full F nb p ps w h hp hb hf
end Go.Proofs.YtlabhbjampkhpaaGreat
