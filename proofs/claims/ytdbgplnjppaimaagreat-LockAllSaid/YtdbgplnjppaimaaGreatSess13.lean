/- The sessions' contracts. -/
import Derived.Test.YtdbgplnjppaimaaGreatLock13b
import Derived.Test.YtdbgplnjppaimaaGreatKind
open Go Go.Proofs Go.RowKit Go.Maps Go.Sort Go.Shelf
namespace Go.Proofs.YtdbgplnjppaimaaGreat
structure SesR (wr : World) (p mb tp tm nb : Nat) (br last : Int) (K : List Int) (td ag : Int → Int) : Prop where
  row : wr.heap[p]? = some (.cells #[.int .i64 br, .int .i64 last, .map (some mb), .pointer (some ⟨tp, 0, none⟩)] 77 (0, 0))
  m : MapN KNM wr mb nb K td
  t : TimL wr tp tm nb 6 K ag
  ne : p ≠ mb ∧ p ≠ tp ∧ p ≠ tm ∧ mb ≠ tp ∧ mb ≠ tm ∧ tp ≠ tm
  st : K.Pairwise (· < ·)
  rg : ∀ y ∈ K, br * 4294967296 < y ∧ y ≤ br * 4294967296 + last
  uq : ∀ y ∈ K, ∀ z ∈ K, td y = td z → td y ≠ 0 → y = z
  bl : 1 ≤ br ∧ br ≤ 8 ∧ 0 ≤ last ∧ last ≤ 100000
def SF (p mb tm : Nat) (k : Nat) : Prop := k = p ∨ k = mb ∨ k = tm
section
variable {wr wc : World} {H : Nat → Prop} {p mb tp tm nb nb' : Nat} {br last : Int} {K : List Int} {td ag : Int → Int}
theorem SesR.keep (h : SesR wr p mb tp tm nb br last K td ag) (hk : Keep H wr wc) (hH : ¬ H p ∧ ¬ H mb ∧ ¬ H tp ∧ ¬ H tm) : SesR wc p mb tp tm nb br last K td ag :=
  ⟨by rw [hk.block p (lt_of_heap h.row) hH.1]; exact h.row, h.m.keep hk hH.2.1, h.t.keep hk hH.2.2.1 hH.2.2.2, h.ne, h.st, h.rg, h.uq, h.bl⟩
theorem SesR.keepN (h : SesR wr p mb tp tm nb br last K td ag) (hk : Keep NoF wr wc) : SesR wc p mb tp tm nb br last K td ag := h.keep hk ⟨fun f => f, fun f => f, fun f => f, fun f => f⟩
theorem SesR.lt (h : SesR wr p mb tp tm nb br last K td ag) : p < wr.heap.size ∧ mb < wr.heap.size ∧ tp < wr.heap.size ∧ tm < wr.heap.size := ⟨lt_of_heap h.row, h.m.lt, h.t.lt.1, h.t.lt.2⟩
theorem SesR.mono (h : SesR wr p mb tp tm nb br last K td ag) (hn : nb ≤ nb') : SesR wr p mb tp tm nb' br last K td ag :=
  ⟨h.row, h.m.mono hn, h.t.mono hn, h.ne, h.st, h.rg, h.uq, h.bl⟩
theorem SesR.ki (h : SesR wr p mb tp tm nb br last K td ag) : ∀ y ∈ K, KI y := h.m.1
end
theorem srt_of {K : List Int} (h : K.Pairwise (· < ·)) : srtL K = K := rise_uniq (srt_rise K) h (fun _ => mem_srtL)
theorem ki_of {x : Int} (h : -9223372036854775808 ≤ x ∧ x ≤ 9223372036854775807) : KI x := WalkArith.wf_i64 h
section
variable {wr : World} {p mb tp tm nb : Nat} {br last : Int} {K : List Int} {td ag : Int → Int}
theorem shas_any (h : SesR wr p mb tp tm nb br last K td ag) (x : Int) (hx : KI x) :
    Calls Tryz.prog 43 #[.pointer (some ⟨p, 0, none⟩), .int .i64 x] wr fun e w' => e = .returned (.bool (decide (x ∈ K))) ∧ w' = wr := by
  have c3 := cell_of_heap h.row 3
  simp at c3
  have HA := Lib.hid (hasL_any tp tm nb 6 K ag x hx wr h.t)
  generalize decide (x ∈ K) = d at HA
  clear h hx
  go_enter Tryz.func43, Tryz.ntmps43
  go_wp2_with fail
  refine HA.out.mono ?_
  rintro e w' ⟨rfl, hw⟩
  obtain rfl : wr = w' := hw.symm
  go_wp2_with fail
  go_ret
  exact ⟨rfl, rfl⟩
theorem shas_nil (x : Int) (w : World) : Calls Tryz.prog 43 #[.pointer none, .int .i64 x] w fun e w' => e = .returned (.bool false) ∧ w' = w := by
  go_enter Tryz.func43, Tryz.ntmps43
  go_wp2_with fail
  go_ret
  exact ⟨rfl, rfl⟩
theorem stid_any (h : SesR wr p mb tp tm nb br last K td ag) (x : Int) (hx : KI x) :
    Calls Tryz.prog 32 #[.pointer (some ⟨p, 0, none⟩), .int .i64 x] wr fun e w' => e = .returned (.int .i64 (if x ∈ K then td x else 0)) ∧ w' = wr := by
  have HA := Lib.hid (shas_any h x hx)
  have c2 := cell_of_heap h.row 2
  simp at c2
  have l1 := h.m.look Tryz.underlying75 hx
  generalize hr : (if x ∈ K then td x else 0) = r at l1
  generalize hd : decide (x ∈ K) = d at HA
  by_cases hm : x ∈ K
  · obtain rfl : true = d := by rw [← hd]; exact (decide_eq_true hm).symm
    clear h hx hd hm
    go_enter Tryz.func32, Tryz.ntmps32
    go_wp2_with fail
    refine HA.out.mono ?_
    rintro e w' ⟨rfl, hw⟩
    obtain rfl : wr = w' := hw.symm
    go_wp2_with fail
    go_ret
    exact ⟨rfl, rfl⟩
  · obtain rfl : false = d := by rw [← hd]; exact (decide_eq_false hm).symm
    have e0 : r = 0 := by rw [← hr]; exact if_neg hm
    rw [e0]
    clear h hx hd hm l1 e0 hr
    go_enter Tryz.func32, Tryz.ntmps32
    go_wp2_with fail
    refine HA.out.mono ?_
    rintro e w' ⟨rfl, hw⟩
    obtain rfl : wr = w' := hw.symm
    go_wp2_with fail
    go_ret
    exact ⟨rfl, rfl⟩
theorem stouch_no (h : SesR wr p mb tp tm nb br last K td ag) (x : Int) (hx : KI x) (hm : x ∉ K) :
    Calls Tryz.prog 34 #[.pointer (some ⟨p, 0, none⟩), .int .i64 x] wr fun e w' => e = .returned (.bool false) ∧ w' = wr := by
  have HA := Lib.hid (shas_any h x hx)
  rw [decide_eq_false hm] at HA
  clear h hx hm
  go_enter Tryz.func34, Tryz.ntmps34
  go_wp2_with fail
  refine HA.out.mono ?_
  rintro e w' ⟨rfl, hw⟩
  obtain rfl : wr = w' := hw.symm
  go_wp2_with fail
  go_ret
  exact ⟨rfl, rfl⟩
theorem stouch_ok (h : SesR wr p mb tp tm nb br last K td ag) (x : Int) (hx : KI x) (hm : x ∈ K) (hnb : nb ≤ 100000) :
    Calls Tryz.prog 34 #[.pointer (some ⟨p, 0, none⟩), .int .i64 x] wr fun e w' => e = .returned (.bool true) ∧ SesR w' p mb tp tm (nb + 1) br last K td (agUp ag x) ∧ Keep (fun k => k = tm) wr w' := by
  have HA := Lib.hid (shas_any h x hx)
  rw [decide_eq_true hm] at HA
  have c3 := cell_of_heap h.row 3
  simp at c3
  have HTH := Lib.hid (heardL_any tp tm nb 6 K ag x hx wr h.t (by omega))
  have H := Lib.hid h; have HM := Lib.hid hm
  clear h hx hm
  go_enter Tryz.func34, Tryz.ntmps34
  go_wp2_with fail
  refine HA.out.mono ?_
  rintro e w' ⟨rfl, hw⟩
  obtain rfl : wr = w' := hw.symm
  go_wp2_with fail
  refine HTH.out.mono ?_
  rintro e w1 ⟨rfl, hT, hk⟩
  have HT := Lib.hid hT; have HK := Lib.hid hk
  clear hT hk
  go_wp2_with fail
  go_ret
  have hn := H.out.ne
  refine ⟨rfl, ⟨by rw [HK.out.block p (lt_of_heap H.out.row) hn.2.2.1]; exact H.out.row, (H.out.m.keep HK.out hn.2.2.2.2.1).mono (Nat.le_succ _), HT.out.congr (fun y => ?_) (fun y _ => rfl), hn, H.out.st, H.out.rg, H.out.uq, H.out.bl⟩, HK.out⟩
  rw [List.mem_cons]
  constructor
  · exact .inr
  · rintro (e | e)
    · rw [e]; exact HM.out
    · exact e
theorem stick_any (h : SesR wr p mb tp tm nb br last K td ag) (hnb : nb + K.length ≤ 100000) :
    Calls Tryz.prog 35 #[.pointer (some ⟨p, 0, none⟩)] wr fun e w' => ∃ v, e = .returned v ∧ RowP 2 wr.heap.size w' v (K.filter fun x => decide (6 ≤ ag x + 1)) ∧ SesR w' p mb tp tm (nb + K.length) br last K td (fun z => ag z + 1) ∧ Keep (fun k => k = tm) wr w' := by
  have c3 := cell_of_heap h.row 3
  simp at c3
  have he := srt_of h.st
  have htk := tickL_any tp tm nb 6 K ag wr h.t (by rw [he]; exact hnb)
  have HTK := Lib.hid htk; have H := Lib.hid h; have HE := Lib.hid he
  clear h htk he
  go_enter Tryz.func35, Tryz.ntmps35
  go_wp2_with fail
  refine HTK.out.mono ?_
  rintro e w' ⟨v, rfl, h5, h6, h7, h8⟩
  have hl : lateL 6 K ag = K.filter fun x => decide (6 ≤ ag x + 1) := by unfold lateL; rw [HE.out]
  rw [hl] at h5
  rw [HE.out] at h7
  have H5 := Lib.hid h5; have H6 := Lib.hid h6; have H7 := Lib.hid h7; have H8 := Lib.hid h8
  obtain ⟨ao, cp, rfl⟩ := row_slice h5
  clear h5 h6 h7 h8 hl
  go_wp2_with fail
  go_ret
  have hn := H.out.ne
  exact ⟨_, rfl, ⟨ao, cp, rfl, by rw [flat1]; exact H5.out, H6.out⟩, ⟨by rw [H8.out.block p (lt_of_heap H.out.row) hn.2.2.1]; exact H.out.row, (H.out.m.keep H8.out hn.2.2.2.2.1).mono (Nat.le_add_right _ _), H7.out, hn, H.out.st, H.out.rg, H.out.uq, H.out.bl⟩, H8.out⟩
theorem sclose_no (h : SesR wr p mb tp tm nb br last K td ag) (x : Int) (hx : KI x) (hm : x ∉ K) :
    Calls Tryz.prog 20 #[.pointer (some ⟨p, 0, none⟩), .int .i64 x] wr fun e w' => e = .returned (.tuple #[.int .i64 0, .bool false]) ∧ w' = wr := by
  have HA := Lib.hid (shas_any h x hx)
  rw [decide_eq_false hm] at HA
  clear h hx hm
  go_enter Tryz.func20, Tryz.ntmps20
  go_wp2_with fail
  refine HA.out.mono ?_
  rintro e w' ⟨rfl, hw⟩
  obtain rfl : wr = w' := hw.symm
  go_wp2_with fail
  go_ret2
  exact ⟨rfl, rfl⟩
theorem sclose_ok (h : SesR wr p mb tp tm nb br last K td ag) (x : Int) (hx : KI x) (hm : x ∈ K) :
    Calls Tryz.prog 20 #[.pointer (some ⟨p, 0, none⟩), .int .i64 x] wr fun e w' => e = .returned (.tuple #[.int .i64 (td x), .bool true]) ∧ SesR w' p mb tp tm nb br last (K.filter fun z => decide (z ≠ x)) td ag ∧ Keep (SF p mb tm) wr w' := by
  have HA := Lib.hid (shas_any h x hx)
  rw [decide_eq_true hm] at HA
  have c2 := cell_of_heap h.row 2
  simp at c2
  have l1 := h.m.look Tryz.underlying75 hx
  rw [if_pos hm] at l1
  obtain ⟨r, hr⟩ : ∃ r, td x = r := ⟨_, rfl⟩
  rw [hr] at l1
  have H := Lib.hid h; have HM := Lib.hid hm; have HX := Lib.hid hx; have HR := Lib.hid hr
  clear h hx hm hr
  go_enter Tryz.func20, Tryz.ntmps20
  go_wp2_with fail
  refine HA.out.mono ?_
  rintro e w' ⟨rfl, hw⟩
  obtain rfl : wr = w' := hw.symm
  go_upto_region 5 with (at_delete; refine H.out.m.wpDel Tryz.underlying75 HX.out rfl rfl rfl rfl ?_; intro w2 hM hg)
  have hk : Keep (fun k => k = mb) wr w2 := (Keep.refl (fun k => k = mb) wr).grown hg (fun k _ e => (Option.some.inj e).symm)
  have hn := H.out.ne
  have hrow2 : w2.heap[p]? = some (.cells #[.int .i64 br, .int .i64 last, .map (some mb), .pointer (some ⟨tp, 0, none⟩)] 77 (0, 0)) := by
    rw [hk.block p (lt_of_heap H.out.row) hn.1]; exact H.out.row
  have d3 := cell_of_heap hrow2 3
  simp at d3
  have HG := Lib.hid (goneL_any tp tm nb 6 K ag x HX.out w2 (H.out.t.keep hk (fun e => hn.2.2.2.1 e.symm) (fun e => hn.2.2.2.2.1 e.symm)))
  rw [decide_eq_true HM.out] at HG
  have HM2 := Lib.hid hM; have HK := Lib.hid hk; have HROW := Lib.hid hrow2
  clear hM hg hk hn hrow2 l1 c2
  go_wp2_with fail
  refine HG.out.mono ?_
  rintro e w3 ⟨rfl, hT, hk3⟩
  have HT := Lib.hid hT; have HK3 := Lib.hid hk3
  clear hT hk3
  go_wp2_with fail
  go_ret2
  have hn := H.out.ne
  have hkk : Keep (SF p mb tm) wr w3 := HK.out.trans HK3.out (fun _ _ e => .inr (.inl e)) (fun _ _ e => .inr (.inr e))
  have hsub : ∀ y ∈ K.filter (fun z => decide (z ≠ x)), y ∈ K := fun y hy => (List.mem_filter.1 hy).1
  refine ⟨?_, ⟨by rw [HK3.out.block p (lt_of_heap HROW.out) hn.2.2.1]; exact HROW.out, HM2.out.keep HK3.out hn.2.2.2.2.1, HT.out, hn, H.out.st.filter _, fun y hy => H.out.rg y (hsub y hy), fun y hy z hz => H.out.uq y (hsub y hy) z (hsub z hz), H.out.bl⟩, hkk⟩
  rw [HR.out]; rfl
/-- What Of finds: a session that has it, or none. -/
def OfIs (K : List Int) (td : Int → Int) (t r : Int) : Prop := (t ≠ 0 ∧ r ∈ K ∧ td r = t) ∨ (r = 0 ∧ (t = 0 ∨ ∀ y ∈ K, td y ≠ t))
theorem sof_zero (q : Value) (w : World) (hq : q = .pointer none ∨ q = .pointer (some ⟨p, 0, none⟩)) : Calls Tryz.prog 33 #[q, .int .i64 0] w fun e w' => e = .returned (.int .i64 0) ∧ w' = w := by
  rcases hq with rfl | rfl
  · go_enter Tryz.func33, Tryz.ntmps33
    go_wp2_with fail
    go_ret
    exact ⟨rfl, rfl⟩
  · go_enter Tryz.func33, Tryz.ntmps33
    go_wp2_with fail
    go_ret
    exact ⟨rfl, rfl⟩
theorem sof_nil (t : Int) (w : World) : Calls Tryz.prog 33 #[.pointer none, .int .i64 t] w fun e w' => e = .returned (.int .i64 0) ∧ w' = w := by
  go_enter Tryz.func33, Tryz.ntmps33
  go_wp2_with fail
  go_ret
  exact ⟨rfl, rfl⟩
set_option maxRecDepth 8000 in
theorem sof_any (h : SesR wr p mb tp tm nb br last K td ag) (t : Int) (ht : t ≠ 0) :
    Calls Tryz.prog 33 #[.pointer (some ⟨p, 0, none⟩), .int .i64 t] wr fun e w' => ∃ r, e = .returned (.int .i64 r) ∧ OfIs K td t r ∧ Keep NoF wr w' := by
  have c2 := cell_of_heap h.row 2
  simp at c2
  obtain ⟨h0, D, hown, hhas, hatk⟩ := h.m
  have hlt := hown.lt
  have ht2 : decide (t = 0) = false := decide_eq_false ht
  have HO := Lib.hid hown; have HH := Lib.hid hhas; have HAT := Lib.hid hatk; have H0 := Lib.hid h0; have HT0 := Lib.hid ht
  clear h hown hhas hatk h0
  go_enter Tryz.func33, Tryz.ntmps33
  go_upto_region 4 with (at_range; refine wpList_range_own _ rfl _ 75 rfl 2 2 KNM.law Tryz.underlying75 _ mb nb D rfl HO.out ?_; intro w1 hrg1 hg1 hs1)
  have K1 := Lib.hid ((Keep.refl NoF wr).grown hg1 (fun k _ e => by cases e))
  obtain ⟨R, hR⟩ : ∃ R, wr.heap.size = R := ⟨_, rfl⟩
  have hfin : ∀ wz, Keep (fun k => k = R) w1 wz → Keep NoF wr wz := fun wz hz => K1.out.trans hz (fun _ _ f => f) (fun k hk e => by omega)
  have HF := Lib.hid hfin
  rw [hR] at hrg1 hs1
  rw [hR]
  have HRG := Lib.hid hrg1
  clear hrg1 hg1 hfin hR
  have hleft0 : ∀ y, KI y → Maps.has D (.int .i64 y) = decide (y ∈ K) := HH.out
  clear c2
  go_loopw [] (fun wr => ∃ (left : Lit → Bool) (cnt : Nat), wr.ranges Tryz.prog 2 (plainElem Tryz.prog 2) mb R nb D left cnt ∧ Keep (fun k => k = R) w1 wr ∧ (∀ y, KI y → left (.int .i64 y) = true → y ∈ K) ∧ (∀ y, y ∈ K → left (.int .i64 y) = false → td y ≠ t)) (fun wr => wr.rangeLeft mb R)
  case atStart => exact ⟨_, _, HRG.out, Keep.refl _ _, fun y hy h => by rw [hleft0 y hy] at h; exact of_decide_eq_true h, fun y hy h => by rw [hleft0 y (H0.out y hy)] at h; exact absurd hy (of_decide_eq_false h)⟩
  case round =>
    obtain ⟨left, cnt, hrg, hk, hl1, hl2⟩ := hrel
    have HK := Lib.hid hk; have HL1 := Lib.hid hl1; have HL2 := Lib.hid hl2; have HRG2 := Lib.hid hrg
    clear hk hl1 hl2 hrg hleft0
    go_wp2_with (at_next; refine wpList_next_ranges_ii _ rfl _ rfl 2 2 .i64 .i64 KNM.law Tryz.underlying2 Tryz.underlying2 mb R nb _ _ _ rfl HRG2.out ?_ ?_)
    · intro hc0 hl0
      have HL0 := Lib.hid hl0
      clear hl0
      go_wp2_with fail
      go_ret
      exact ⟨0, rfl, .inr ⟨rfl, .inr fun y hy => HL2.out y hy (HL0.out _)⟩, HF.out _ HK.out⟩
    · intro x c w2 cnt1 hwx hwc hlx hat hrg1 hlt hg1 hs1 hen
      have hxk : x ∈ K := HL1.out x hwx hlx
      have htc : td x = c := by
        have h1 := HAT.out x hwx
        rw [hat, if_pos hxk] at h1
        injection h1 with h1; injection h1 with _ h1
        exact h1.symm
      have hk2 : Keep (fun k => k = R) w1 w2 := HK.out.grown hg1 (fun k _ e => (Option.some.inj e).symm)
      have HRG1 := Lib.hid hrg1; have HXK := Lib.hid hxk; have HTC := Lib.hid htc; have HK2 := Lib.hid hk2; have HLT := Lib.hid hlt; have HLX := Lib.hid hlx
      clear hrg1 hxk htc hk2 hlt hlx hat hg1 hs1 hwx hwc
      by_cases e : c = t
      · subst e
        have hd : decide (c = c) = true := decide_eq_true rfl
        go_wp2_with fail
        go_ret
        exact ⟨x, rfl, .inl ⟨HT0.out, HXK.out, HTC.out⟩, HF.out _ HK2.out⟩
      · have hd : decide (c = t) = false := decide_eq_false e
        go_wp2_with fail
        go_roundw
        case rel =>
          refine ⟨_, cnt1, HRG1.out, HK2.out, fun y hy h => ?_, fun y hy h => ?_⟩
          · rw [Bool.and_eq_true] at h
            exact HL1.out y hy h.1
          · rw [Bool.and_eq_false_iff] at h
            rcases h with h | h
            · exact HL2.out y hy h
            · have h2 := WideAt.sameKey_eq (a := Lit.int .i64 y) (b := Lit.int .i64 x) (by simpa using h)
              injection h2 with _ h2
              rw [h2, HTC.out]; exact e
        case measure => rw [HRG1.out.left_eq, HRG2.out.left_eq]; exact HLT.out
theorem sof_tot (h : SesR wr p mb tp tm nb br last K td ag) (t : Int) :
    Calls Tryz.prog 33 #[.pointer (some ⟨p, 0, none⟩), .int .i64 t] wr fun e w' => ∃ r, e = .returned (.int .i64 r) ∧ OfIs K td t r ∧ Keep NoF wr w' := by
  by_cases ht : t = 0
  · subst ht
    refine (sof_zero (p := p) _ wr (.inr rfl)).mono ?_
    rintro e w' ⟨rfl, rfl⟩
    exact ⟨0, rfl, .inr ⟨rfl, .inl rfl⟩, Keep.refl _ _⟩
  · exact sof_any h t ht
def Taken (K : List Int) (td : Int → Int) (x t : Int) : Prop := t ≠ 0 ∧ ∃ y ∈ K, y ≠ x ∧ td y = t
theorem ses_pos (h : SesR wr p mb tp tm nb br last K td ag) : ∀ y ∈ K, 4294967296 < y := fun y hy => by have := h.rg y hy; have := h.bl; omega
set_option maxRecDepth 8000 in
theorem sbind_taken (h : SesR wr p mb tp tm nb br last K td ag) (x t : Int) (hT : Taken K td x t) :
    Calls Tryz.prog 31 #[.pointer (some ⟨p, 0, none⟩), .int .i64 x, .int .i64 t] wr fun e w' => e = .returned (.bool false) ∧ Keep NoF wr w' := by
  have HO := Lib.hid (sof_tot h t)
  have hr : ∀ r, OfIs K td t r → r ≠ 0 ∧ r ≠ x := by
    obtain ⟨ht, y, hy, hyx, hyt⟩ := hT
    rintro r (⟨_, hr, hrt⟩ | ⟨_, e | e⟩)
    · have : r = y := h.uq r hr y hy (by rw [hrt, hyt]) (by rw [hrt]; exact ht)
      have := ses_pos h r hr
      exact ⟨by omega, by omega⟩
    · exact absurd e ht
    · exact absurd hyt (e y hy)
  have HR := Lib.hid hr
  clear h hr hT
  go_enter Tryz.func31, Tryz.ntmps31
  go_wp2_with fail
  refine HO.out.mono ?_
  rintro e w1 ⟨r, rfl, hof, hk⟩
  have hd1 : (r != 0) = true := by simpa using (HR.out r hof).1
  have hd2 : (r != x) = true := by simpa using (HR.out r hof).2
  have HK := Lib.hid hk
  clear hk hof
  go_wp2_with fail
  go_ret
  exact ⟨rfl, HK.out⟩
set_option maxRecDepth 8000 in
theorem sbind_out (h : SesR wr p mb tp tm nb br last K td ag) (x t : Int) (hx : KI x) (hT : ¬ Taken K td x t) (hm : x ∉ K) :
    Calls Tryz.prog 31 #[.pointer (some ⟨p, 0, none⟩), .int .i64 x, .int .i64 t] wr fun e w' => e = .returned (.bool false) ∧ Keep NoF wr w' := by
  have HO := Lib.hid (sof_tot h t)
  have hr : ∀ r, OfIs K td t r → r = 0 := by
    rintro r (⟨ht, hr, hrt⟩ | ⟨e, _⟩)
    · exact absurd ⟨ht, r, hr, fun e => hm (e ▸ hr), hrt⟩ hT
    · exact e
  have HR := Lib.hid hr
  have HTC := Lib.hid (fun W (hW : Keep NoF wr W) => stouch_no (h.keepN hW) x hx hm)
  clear h hr hT hx hm
  go_enter Tryz.func31, Tryz.ntmps31
  go_wp2_with fail
  refine HO.out.mono ?_
  rintro e w1 ⟨r, rfl, hof, hk⟩
  obtain rfl : r = 0 := HR.out r hof
  have HK := Lib.hid hk
  clear hk hof
  go_wp2_with fail
  refine (HTC.out _ HK.out).mono ?_
  rintro e w2 ⟨rfl, rfl⟩
  go_wp2_with fail
  go_ret
  exact ⟨rfl, HK.out⟩
def tdUp (td : Int → Int) (x t : Int) : Int → Int := fun y => if y = x then t else td y
def SBound (wr : World) (p mb tp tm nb : Nat) (br last : Int) (K : List Int) (td ag : Int → Int) (x t : Int) (e : Ending) (w' : World) : Prop :=
  e = .returned (.bool true) ∧ SesR w' p mb tp tm (nb + 2) br last K (tdUp td x t) (agUp ag x) ∧ Keep (SF p mb tm) wr w'
set_option maxRecDepth 8000 in
theorem sbind_ok (h : SesR wr p mb tp tm nb br last K td ag) (x t : Int) (hx : KI x) (ht : KI t) (hT : ¬ Taken K td x t) (hm : x ∈ K) (hnb : nb ≤ 100000) :
    Calls Tryz.prog 31 #[.pointer (some ⟨p, 0, none⟩), .int .i64 x, .int .i64 t] wr (SBound wr p mb tp tm nb br last K td ag x t) := by
  have HO := Lib.hid (sof_tot h t)
  have hr : ∀ r, OfIs K td t r → r = 0 ∨ r = x := by
    rintro r (⟨ht, hr, hrt⟩ | ⟨e, _⟩)
    · exact .inr (Classical.byContradiction fun e => hT ⟨ht, r, hr, e, hrt⟩)
    · exact .inl e
  have HR := Lib.hid hr
  have HTC := Lib.hid (fun W (hW : Keep NoF wr W) => stouch_ok (h.keepN hW) x hx hm hnb)
  have hx0 : (x != 0) = true := by have := ses_pos h x hm; simp; omega
  have H := Lib.hid h; have HM := Lib.hid hm; have HX := Lib.hid hx; have HT := Lib.hid ht; have HTK := Lib.hid hT; have HNB := Lib.hid hnb
  have hfin : ∀ w1 w2 w3, Keep NoF wr w1 → SesR w2 p mb tp tm (nb + 1) br last K td (agUp ag x) → Keep (fun k => k = tm) w1 w2 → MapN KNM w3 mb (nb + 2) (x :: K) (fun z => if z = x then t else td z) → w2.grownBy w3 (some mb) → SBound wr p mb tp tm nb br last K td ag x t (.returned (.bool true)) w3 := by
    intro w1 w2 w3 hk1 hS hk2 hM hg
    have hk3 : Keep (fun k => k = mb) w2 w3 := (Keep.refl (fun k => k = mb) w2).grown hg (fun k _ e => (Option.some.inj e).symm)
    have hn := hS.ne
    refine ⟨rfl, ⟨by rw [hk3.block p (lt_of_heap hS.row) hn.1]; exact hS.row, hM.congr (fun y => ?_) (fun _ _ => rfl), (hS.t.keep hk3 (fun e => hn.2.2.2.1 e.symm) (fun e => hn.2.2.2.2.1 e.symm)).mono (Nat.le_succ _), hn, hS.st, hS.rg, ?_, hS.bl⟩, (hk1.trans hk2 (fun _ _ f => f.elim) (fun _ _ e => .inr (.inr e))).trans hk3 (fun _ _ f => f) (fun _ _ e => .inr (.inl e))⟩
    · rw [List.mem_cons]
      constructor
      · exact .inr
      · rintro (e | e)
        · rw [e]; exact hm
        · exact e
    · intro y hy z hz
      unfold tdUp
      intro e e0
      by_cases ey : y = x
      · rw [if_pos ey] at e e0
        by_cases ez : z = x
        · rw [ey, ez]
        · rw [if_neg ez] at e
          exact absurd ⟨e0, z, hz, ez, e.symm⟩ hT
      · rw [if_neg ey] at e e0
        by_cases ez : z = x
        · rw [if_pos ez] at e
          exact absurd ⟨by rw [← e]; exact e0, y, hy, ey, e⟩ hT
        · rw [if_neg ez] at e
          exact hS.uq y hy z hz e e0
  have HFIN := Lib.hid hfin
  clear h hr hT hx hm ht hfin hnb
  go_enter Tryz.func31, Tryz.ntmps31
  go_wp2_with fail
  refine HO.out.mono ?_
  rintro e w1 ⟨r, rfl, hof, hk⟩
  have HK := Lib.hid hk
  rcases HR.out r hof with e | e <;> subst e
  · clear hk hof
    go_wp2_with fail
    refine (HTC.out _ HK.out).mono ?_
    rintro e w2 ⟨rfl, hS, hk2⟩
    have c2 := cell_of_heap hS.row 2
    simp at c2
    have HS := Lib.hid hS; have HK2 := Lib.hid hk2
    clear hS hk2
    go_wp2_with (at_mapUpdate; refine HS.out.m.wpPut Tryz.underlying75 (by have := HNB.out; unfold maxLen; omega) HX.out _ HT.out rfl rfl rfl rfl rfl ?_; intro w3 hM hg)
    have HFN := Lib.hid (HFIN.out _ _ _ HK.out HS.out HK2.out hM hg)
    clear hM hg
    go_wp2_with fail
    go_ret
    exact HFN.out
  · clear hk hof
    go_wp2_with fail
    refine (HTC.out _ HK.out).mono ?_
    rintro e w2 ⟨rfl, hS, hk2⟩
    have c2 := cell_of_heap hS.row 2
    simp at c2
    have HS := Lib.hid hS; have HK2 := Lib.hid hk2
    clear hS hk2
    go_wp2_with (at_mapUpdate; refine HS.out.m.wpPut Tryz.underlying75 (by have := HNB.out; unfold maxLen; omega) HX.out _ HT.out rfl rfl rfl rfl rfl ?_; intro w3 hM hg)
    have HFN := Lib.hid (HFIN.out _ _ _ HK.out HS.out HK2.out hM hg)
    clear hM hg
    go_wp2_with fail
    go_ret
    exact HFN.out
theorem once_len {K : List Int} (h : K.Pairwise (· < ·)) : (once K).length = K.length :=
  ((List.perm_ext_iff_of_nodup (nodup_once K) (List.nodup_iff_pairwise_ne.2 (h.imp fun {a b} h => by omega))).2 (fun x => mem_once)).length_eq
theorem sopen_full (h : SesR wr p mb tp tm nb br last K td ag) (hK : 20 ≤ K.length) :
    Calls Tryz.prog 19 #[.pointer (some ⟨p, 0, none⟩)] wr fun e w' => e = .returned (.tuple #[.int .i64 0, .bool false]) ∧ w' = wr := by
  have c2 := cell_of_heap h.row 2
  simp at c2
  have l := fun ty => lenM h.m ty
  rw [once_len h.st] at l
  generalize K.length = n at l hK
  have hn : decide ((20 : Int) ≤ n) = true := decide_eq_true (by omega)
  have hn2 : (20 : Int) ≤ n := by omega
  clear h
  go_enter Tryz.func19, Tryz.ntmps19
  go_wp2_with fail
  go_ret2
  exact ⟨rfl, rfl⟩
theorem sopen_nil (w : World) : Calls Tryz.prog 19 #[.pointer none] w fun e w' => e = .returned (.tuple #[.int .i64 0, .bool false]) ∧ w' = w := by
  go_enter Tryz.func19, Tryz.ntmps19
  go_wp2_with fail
  go_ret2
  exact ⟨rfl, rfl⟩
theorem stouch_nil (x : Int) (w : World) : Calls Tryz.prog 34 #[.pointer none, .int .i64 x] w fun e w' => e = .returned (.bool false) ∧ w' = w := by
  go_enter Tryz.func34, Tryz.ntmps34
  go_wp2_with fail
  refine (shas_nil x w).mono ?_
  rintro e w' ⟨rfl, rfl⟩
  go_wp2_with fail
  go_ret
  exact ⟨rfl, rfl⟩
theorem stid_nil (x : Int) (w : World) : Calls Tryz.prog 32 #[.pointer none, .int .i64 x] w fun e w' => e = .returned (.int .i64 0) ∧ w' = w := by
  go_enter Tryz.func32, Tryz.ntmps32
  go_wp2_with fail
  refine (shas_nil x w).mono ?_
  rintro e w' ⟨rfl, rfl⟩
  go_wp2_with fail
  go_ret
  exact ⟨rfl, rfl⟩
theorem sclose_nil (x : Int) (w : World) : Calls Tryz.prog 20 #[.pointer none, .int .i64 x] w fun e w' => e = .returned (.tuple #[.int .i64 0, .bool false]) ∧ w' = w := by
  go_enter Tryz.func20, Tryz.ntmps20
  go_wp2_with fail
  refine (shas_nil x w).mono ?_
  rintro e w' ⟨rfl, rfl⟩
  go_wp2_with fail
  go_ret2
  exact ⟨rfl, rfl⟩
theorem sbind_nil (x t : Int) (w : World) : Calls Tryz.prog 31 #[.pointer none, .int .i64 x, .int .i64 t] w fun e w' => e = .returned (.bool false) ∧ w' = w := by
  go_enter Tryz.func31, Tryz.ntmps31
  go_wp2_with fail
  refine (sof_nil t w).mono ?_
  rintro e w' ⟨rfl, rfl⟩
  go_wp2_with fail
  refine (stouch_nil x _).mono ?_
  rintro e w' ⟨rfl, rfl⟩
  go_wp2_with fail
  go_ret
  exact ⟨rfl, rfl⟩
theorem stick_nil (w : World) : Calls Tryz.prog 35 #[.pointer none] w fun e w' => e = .returned (.slice none 0 0) ∧ w' = w := by
  go_enter Tryz.func35, Tryz.ntmps35
  go_wp2_with fail
  go_ret
  exact ⟨rfl, rfl⟩
theorem make_is (br n : Int) (hb : 1 ≤ br ∧ br ≤ 8) (hn : 1 ≤ n ∧ n ≤ 200000) : makeOf br n = br * 4294967296 + n := by
  unfold makeOf
  rw [if_pos ⟨brokerB_iff.2 hb, hn.1, by omega⟩]
def SOpened (wr : World) (p mb tp tm nb : Nat) (br last : Int) (K : List Int) (td ag : Int → Int) (e : Ending) (w' : World) : Prop :=
  e = .returned (.tuple #[.int .i64 (br * 4294967296 + (last + 1)), .bool true]) ∧ SesR w' p mb tp tm (nb + 1) br (last + 1) (K ++ [br * 4294967296 + (last + 1)]) (tdUp td (br * 4294967296 + (last + 1)) 0) (agUp ag (br * 4294967296 + (last + 1))) ∧ Keep (SF p mb tm) wr w'
set_option maxRecDepth 8000 in
set_option maxHeartbeats 1000000 in
theorem sopen_ok (h : SesR wr p mb tp tm nb br last K td ag) (hK : K.length < 20) (hl : last < 100000) (hnb : nb ≤ 100000) :
    Calls Tryz.prog 19 #[.pointer (some ⟨p, 0, none⟩)] wr (SOpened wr p mb tp tm nb br last K td ag) := by
  have c0 := cell_of_heap h.row 0
  have c1 := cell_of_heap h.row 1
  have c2 := cell_of_heap h.row 2
  simp at c0 c1 c2
  have l := fun ty => lenM h.m ty
  rw [once_len h.st] at l
  have hbl := h.bl
  obtain ⟨n, hn⟩ : ∃ n, K.length = n := ⟨_, rfl⟩
  rw [hn] at l hK
  have hn3 : ¬ (20 : Int) ≤ n := by omega
  have hn2 : decide ((20 : Int) ≤ n) = false := decide_eq_false hn3
  have hw1 : IntKind.i64.wrap (last + 1) = last + 1 := IntWalk.i64_in _ (by omega)
  have HMK := Lib.hid (fun W => kmake_any br (last + 1) W (by omega) (by omega))
  rw [make_is br (last + 1) ⟨hbl.1, hbl.2.1⟩ (by omega)] at HMK
  obtain ⟨id, hid⟩ : ∃ id, br * 4294967296 + (last + 1) = id := ⟨_, rfl⟩
  have hidr : 4294967296 < id ∧ id ≤ 40000000000 := by omega
  have hid0 : decide (id = 0) = false := decide_eq_false (by omega)
  have hid1 : ¬ id = 0 := by omega
  have hnew : id ∉ K := fun e => by have := h.rg id e; omega
  rw [hid] at HMK
  have H := Lib.hid h; have HID := Lib.hid hid; have HN := Lib.hid hn; have HNEW := Lib.hid hnew; have HBL := Lib.hid hbl; have HNB := Lib.hid hnb; have HL := Lib.hid hl
  have HKI := Lib.hid (ki_of (x := id) (by omega))
  have HFR := Lib.hid (free_of_heap h.row 1)
  unfold SOpened
  rw [hid]
  clear h hbl hn hid hnew hnb hl hidr
  go_enter Tryz.func19, Tryz.ntmps19
  go_upto_region 3 with fail
  go_quiet ((go_at_call 41; exact Calls.quiet_of_same ((HMK.out _).mono fun e w' h => ⟨h.1, h.2⟩)))
  go_upto_region 4 with fail
  refine wp_named (F := NoF) (wq := wr) ((Keep.refl NoF wr).drewN _) ?_
  intro wz hz
  clear c0 c1 c2 l
  have hS := H.out.keepN hz
  have HZ := Lib.hid hz
  have hrow := hS.row
  have c1 := cell_of_heap hrow 1
  simp at c1
  have f1 := free_of_heap hrow 1
  have hset : (wz.setCell ⟨p, 1, none⟩ (.int .i64 (last + 1))).heap[p]? = some (.cells #[.int .i64 br, .int .i64 (last + 1), .map (some mb), .pointer (some ⟨tp, 0, none⟩)] 77 (0, 0)) := by
    simp [World.setCell, Array.getElem?_modify, hrow]
  have hk1 : Keep (fun k => k = p) wz (wz.setCell ⟨p, 1, none⟩ (.int .i64 (last + 1))) := (Keep.refl (fun k => k = p) wz).setCell (p := ⟨p, 1, none⟩) (fun _ => rfl) _
  have d2 := cell_of_heap hset 2
  simp at d2
  have hn := hS.ne
  have HM1 := Lib.hid (hS.m.keep hk1 (fun e => hn.1 e.symm))
  have HT1 := Lib.hid (hS.t.keep hk1 (fun e => hn.2.1 e.symm) (fun e => hn.2.2.1 e.symm))
  have HSET := Lib.hid hset; have HK1 := Lib.hid hk1; have HNE := Lib.hid hn
  clear hz hS hrow hset hk1 hn
  go_upto_region 8 with (at_mapUpdate; refine HM1.out.wpPut Tryz.underlying75 (by have := HNB.out; unfold maxLen; omega) HKI.out 0 (by decide) rfl rfl rfl rfl rfl ?_; intro w2 hM hg)
  have hk2 : Keep (fun k => k = mb) (wz.setCell ⟨p, 1, none⟩ (.int .i64 (last + 1))) w2 := (Keep.refl (fun k => k = mb) _).grown hg (fun k _ e => (Option.some.inj e).symm)
  have hrow2 : w2.heap[p]? = some (.cells #[.int .i64 br, .int .i64 (last + 1), .map (some mb), .pointer (some ⟨tp, 0, none⟩)] 77 (0, 0)) := by
    rw [hk2.block p (lt_of_heap HSET.out) HNE.out.1]; exact HSET.out
  have e3 := cell_of_heap hrow2 3
  simp at e3
  have HTH := Lib.hid (heardL_any tp tm nb 6 K ag id HKI.out w2 (HT1.out.keep hk2 (fun e => HNE.out.2.2.2.1 e.symm) (fun e => HNE.out.2.2.2.2.1 e.symm)) (by have := HNB.out; omega))
  have HM2 := Lib.hid hM; have HK2 := Lib.hid hk2; have HROW2 := Lib.hid hrow2
  clear hM hg hk2 hrow2 d2 c1 f1
  go_wp2_with fail
  refine HTH.out.mono ?_
  rintro e w3 ⟨rfl, hT, hk3⟩
  have HT := Lib.hid hT; have HK3 := Lib.hid hk3
  clear hT hk3
  go_wp2_with fail
  go_ret2
  have hn := HNE.out
  have hbl := HBL.out
  have hmem : ∀ y, y ∈ K ++ [id] ↔ y ∈ id :: K := fun y => by simp [or_comm]
  refine ⟨rfl, ⟨by rw [HK3.out.block p (lt_of_heap HROW2.out) hn.2.2.1]; exact HROW2.out, (HM2.out.keep HK3.out hn.2.2.2.2.1).congr hmem (fun y _ => rfl), HT.out.congr hmem (fun y _ => rfl), hn, ?_, ?_, ?_, ⟨hbl.1, hbl.2.1, by have := hbl.2.2.1; omega, by have := HL.out; omega⟩⟩, ?_⟩
  · rw [List.pairwise_append]
    refine ⟨H.out.st, List.pairwise_singleton _ _, fun a ha b hb => ?_⟩
    rw [List.mem_singleton] at hb
    have := H.out.rg a ha; have := HID.out; omega
  · intro y hy
    rcases List.mem_append.1 hy with hy | hy
    · have := H.out.rg y hy; omega
    · rw [List.mem_singleton] at hy; have := HID.out; have := hbl.2.2.1; omega
  · intro y hy z hz
    unfold tdUp
    intro e e0
    by_cases ey : y = id
    · rw [if_pos ey] at e0; exact absurd rfl e0
    · rw [if_neg ey] at e e0
      by_cases ez : z = id
      · rw [if_pos ez] at e; exact absurd e e0
      · rw [if_neg ez] at e
        have hy2 : y ∈ K := (List.mem_append.1 hy).elim (fun h => h) (fun h => absurd (List.mem_singleton.1 h) ey)
        have hz2 : z ∈ K := (List.mem_append.1 hz).elim (fun h => h) (fun h => absurd (List.mem_singleton.1 h) ez)
        exact H.out.uq y hy2 z hz2 e e0
  · exact ((HZ.out.trans HK1.out (fun _ _ f => f.elim) (fun _ _ e => .inl e)).trans HK2.out (fun _ _ f => f) (fun _ _ e => .inr (.inl e))).trans HK3.out (fun _ _ f => f) (fun _ _ e => .inr (.inr e))
def NewSes (w : World) (br : Int) (e : Ending) (w' : World) : Prop :=
  ∃ p mb tp tm, e = .returned (.pointer (some ⟨p, 0, none⟩)) ∧ SesR w' p mb tp tm 0 br 0 [] (fun _ => 0) (fun _ => 0) ∧ Keep NoF w w' ∧ w.heap.size ≤ p ∧ w.heap.size ≤ mb ∧ w.heap.size ≤ tp ∧ w.heap.size ≤ tm
theorem newSes_any (br : Int) (hb : 1 ≤ br ∧ br ≤ 8) (w : World) : Calls Tryz.prog 18 #[.int .i64 br] w (NewSes w br) := by
  have hmm := @run_makeMap Tryz.prog
  have HN := Lib.hid (fun W => newTimL_any 6 W)
  have HM := Lib.hid (MapN.made KNM w)
  have HK := Lib.hid ((Keep.refl NoF w).alloc (.map #[] 0))
  have HS : Hid ((w.alloc (.map #[] 0)).heap.size = w.heap.size + 1) := Lib.hid (by simp)
  have HB := Lib.hid hb
  clear hb
  go_enter Tryz.func18, Tryz.ntmps18
  go_wp2_with fail
  refine (HN.out _).mono ?_
  rintro e w1 ⟨tp, tm, rfl, hT, hk, hp, hb⟩
  have hka := (Keep.refl NoF w1).alloc (.cells #[.int .i64 br, .int .i64 0, .map (some w.heap.size), .pointer (some ⟨tp, 0, none⟩)] 77)
  have hM := (HM.out.keep hk (fun f => f)).keep hka (fun f => f)
  have hT2 := hT.keep hka (fun f => f) (fun f => f)
  have hrow := heap_new w1 (.cells #[.int .i64 br, .int .i64 0, .map (some w.heap.size), .pointer (some ⟨tp, 0, none⟩)] 77)
  rw [HS.out] at hp hb
  have hlt := hT.lt
  have hne := hT.ne
  have hmb : w.heap.size < w1.heap.size := HM.out.lt |> fun h => Nat.lt_of_lt_of_le h hk.size
  have HR : Hid (SesR (w1.alloc (.cells #[.int .i64 br, .int .i64 0, .map (some w.heap.size), .pointer (some ⟨tp, 0, none⟩)] 77)) w1.heap.size w.heap.size tp tm 0 br 0 [] (fun _ => 0) (fun _ => 0)) :=
    Lib.hid ⟨hrow, hM, hT2, ⟨by omega, by omega, by omega, by omega, by omega, hne⟩, List.Pairwise.nil, by simp, by simp, ⟨HB.out.1, HB.out.2, by omega, by omega⟩⟩
  have HKK := Lib.hid ((HK.out.trans' hk).alloc (.cells #[.int .i64 br, .int .i64 0, .map (some w.heap.size), .pointer (some ⟨tp, 0, none⟩)] 77))
  clear hT hk hM hT2 hrow hne hka
  go_wp2_with fail
  go_ret
  exact ⟨_, _, _, _, rfl, HR.out, HKK.out, by omega, by omega, by omega, by omega⟩
end
end Go.Proofs.YtdbgplnjppaimaaGreat
