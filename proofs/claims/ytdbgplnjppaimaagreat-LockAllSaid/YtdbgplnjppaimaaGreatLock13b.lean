/- The lock's contracts: Touch, Drop, Tick, Tids, Puts, All, New; of none. -/
import Derived.Test.YtdbgplnjppaimaaGreatLock13
import Derived.Test.YtdbgplnjppaimaaGreatRowsJ
import Derived.Deep.CutRange
open Go Go.Proofs Go.RowKit Go.Maps Go.Sort Go.Shelf
namespace Go.Proofs.YtdbgplnjppaimaaGreat
section
variable {wr wc : World} {F H : Nat → Prop} {rl : Nat → Role} {p nb nb' mb tp tm : Nat} {bk : Int → Nat} {pv : Int → Value} {ks ks' ks2 : List Int} {cn : Int → Int} {ps : Int → List PutV} {ag ag' : Int → Int}
theorem LockR.timer (h : LockR wr F rl p nb mb tp tm bk pv ks ks' cn ps ag) (hk : Keep (fun k => k = tm) wr wc) (hT : TimL wc tp tm nb' 6 ks2 ag') (hks : ∀ y, y ∈ ks2 ↔ 1 ≤ cn y) (hnb : nb ≤ nb') : LockR wc F rl p nb' mb tp tm bk pv ks ks2 cn ps ag' := by
  have r1 := h.rp
  refine ⟨?_, ?_, h.km, hT, hks, ?_, h.cr, h.fp, h.fg, fun k hk2 => Nat.lt_of_lt_of_le (h.lt k hk2) hk.size, h.rp, h.rg⟩
  · rw [hk.block p (lt_of_heap h.row) (fun e => by rw [e, r1.2.2.2] at r1; cases r1.1)]; exact h.row
  · exact (h.m.keep hk (fun e => by rw [e, r1.2.2.2] at r1; cases r1.2.1)).mono hnb
  · intro y hy
    have h2 := h.rg y hy
    obtain ⟨g1, g2⟩ := h.g y hy
    exact ⟨by rw [hk.block (bk y) (lt_of_heap g1) (fun e => by rw [e, r1.2.2.2] at h2; cases h2.1)]; exact g1, g2.keep hk (fun k hk2 e => by have h3 := h2.2 k hk2; rw [e, r1.2.2.2] at h3; cases h3)⟩
def cnOff (cn : Int → Int) (x : Int) : Int → Int := fun y => if y = x then 0 else cn y
def psOff (ps : Int → List PutV) (x : Int) : Int → List PutV := fun y => if y = x then [] else ps y
theorem LockR.drop (h : LockR wr F rl p nb mb tp tm bk pv ks ks' cn ps ag) (x : Int) (hk : Keep (fun k => k = mb ∨ k = tm) wr wc) (hM : MapP 2 wc mb nb (ks.filter fun z => decide (z ≠ x)) bk) (hT : TimL wc tp tm nb 6 (ks'.filter fun z => decide (z ≠ x)) ag) :
    LockR wc F rl p nb mb tp tm bk pv (ks.filter fun z => decide (z ≠ x)) (ks'.filter fun z => decide (z ≠ x)) (cnOff cn x) (psOff ps x) ag := by
  have r1 := h.rp
  have hne : ∀ k, rl k ≠ .m → rl k ≠ .u → ¬ (k = mb ∨ k = tm) := fun k a b e => by
    rcases e with e | e
    · rw [e] at a; exact a r1.2.1
    · rw [e] at b; exact b r1.2.2.2
  have hoff : ∀ y, 1 ≤ cnOff cn x y → y ≠ x ∧ 1 ≤ cn y := fun y hy => by
    unfold cnOff at hy
    by_cases e : y = x
    · rw [if_pos e] at hy; omega
    · rw [if_neg e] at hy; exact ⟨e, hy⟩
  have hmem : ∀ (l : List Int), (∀ y, y ∈ l ↔ 1 ≤ cn y) → ∀ y, y ∈ (l.filter fun z => decide (z ≠ x)) ↔ 1 ≤ cnOff cn x y := fun l hl y => by
    rw [List.mem_filter, hl]
    unfold cnOff
    by_cases e : y = x
    · rw [if_pos e]; simp [e]
    · rw [if_neg e]; simp [e]
  refine ⟨?_, hM, hmem ks h.km, hT, hmem ks' h.tk, ?_, ?_, h.fp, fun y hy => h.fg y (hoff y hy).2, fun k hk2 => Nat.lt_of_lt_of_le (h.lt k hk2) hk.size, h.rp, fun y hy => h.rg y (hoff y hy).2⟩
  · rw [hk.block p (lt_of_heap h.row) (hne p (by rw [r1.1]; exact nofun) (by rw [r1.1]; exact nofun))]; exact h.row
  · intro y hy
    obtain ⟨e, hy⟩ := hoff y hy
    have h2 := h.rg y hy
    obtain ⟨g1, g2⟩ := h.g y hy
    unfold cnOff psOff
    rw [if_neg e, if_neg e]
    exact ⟨by rw [hk.block (bk y) (lt_of_heap g1) (hne _ (by rw [h2.1]; exact nofun) (by rw [h2.1]; exact nofun))]; exact g1, g2.keep hk (fun k hk2 => hne k (by rw [h2.2 k hk2]; exact nofun) (by rw [h2.2 k hk2]; exact nofun))⟩
  · intro y
    unfold cnOff psOff
    by_cases e : y = x
    · rw [if_pos e, if_pos e]; simp
    · rw [if_neg e, if_neg e]; exact h.cr y
end
theorem touch_no {wr : World} {F : Nat → Prop} {p nb : Nat} {cn : Int → Int} {ps : Int → List PutV} {ag : Int → Int} (h : LockW wr F p nb cn ps ag) (x : Int) (hx : KI x) (hc : cn x = 0) :
    Calls Tryz.prog 25 #[.pointer (some ⟨p, 0, none⟩), .int .i64 x] wr fun e w' => e = .returned (.bool false) ∧ w' = wr := by
  have hn := lockN h x hx
  rw [hc] at hn
  have HN := Lib.hid hn
  clear h hx hc hn
  go_enter Tryz.func25, Tryz.ntmps25
  go_wp2_with fail
  refine HN.out.mono ?_
  rintro e w' ⟨rfl, rfl⟩
  go_wp2_with fail
  go_ret
  exact ⟨rfl, rfl⟩
theorem touch_nil (x : Int) (w : World) : Calls Tryz.prog 25 #[.pointer none, .int .i64 x] w fun e w' => e = .returned (.bool false) ∧ w' = w := by
  go_enter Tryz.func25, Tryz.ntmps25
  go_wp2_with fail
  refine (lockN_nil x w).mono ?_
  rintro e w' ⟨rfl, rfl⟩
  go_wp2_with fail
  go_ret
  exact ⟨rfl, rfl⟩
theorem touch_ok {wr : World} {F : Nat → Prop} {p nb : Nat} {cn : Int → Int} {ps : Int → List PutV} {ag : Int → Int} (h : LockW wr F p nb cn ps ag) (x : Int) (hx : KI x) (hc : 1 ≤ cn x) (hnb : nb ≤ 100000) :
    Calls Tryz.prog 25 #[.pointer (some ⟨p, 0, none⟩), .int .i64 x] wr (LStep wr F p (nb + 1) cn ps (agUp ag x) (.bool true)) := by
  have hn := lockN h x hx
  have HN := Lib.hid hn
  obtain ⟨rl, mb, tp, tm, bk, pv, ks, ks', h⟩ := h
  have c1 := cell_of_heap h.row 1
  simp at c1
  have hth := heardL_any tp tm nb 6 ks' ag x hx wr h.t (by omega)
  have HTH := Lib.hid hth; have H := Lib.hid h; have HC := Lib.hid hc
  obtain ⟨c, hcc⟩ : ∃ c, cn x = c := ⟨_, rfl⟩
  rw [hcc] at hc
  rw [hcc] at HN
  clear h hn hth hx hcc
  go_enter Tryz.func25, Tryz.ntmps25
  go_wp2_with fail
  refine HN.out.mono ?_
  rintro e w' ⟨rfl, hw⟩
  obtain rfl : wr = w' := hw.symm
  go_wp2_with fail
  refine HTH.out.mono ?_
  rintro e w1 ⟨rfl, hT, hk⟩
  have HT := Lib.hid hT; have HK := Lib.hid hk
  clear hT hk
  go_wp2_with fail
  go_ret
  refine ⟨F, rfl, ⟨rl, mb, tp, tm, bk, pv, ks, _, H.out.timer HK.out HT.out (fun y => ?_) (Nat.le_succ _)⟩, HK.out.mono (fun k _ e => by rw [e]; exact H.out.fp.2.2.2), fun k f => .inl f⟩
  rw [List.mem_cons, H.out.tk]
  constructor
  · rintro (e | e)
    · rw [e]; exact HC.out
    · exact e
  · exact .inr
theorem drop_no {wr : World} {F : Nat → Prop} {p nb : Nat} {cn : Int → Int} {ps : Int → List PutV} {ag : Int → Int} (h : LockW wr F p nb cn ps ag) (x : Int) (hx : KI x) (hc : cn x = 0) :
    Calls Tryz.prog 26 #[.pointer (some ⟨p, 0, none⟩), .int .i64 x] wr fun e w' => e = .returned (.bool false) ∧ w' = wr := by
  have hn := lockN h x hx
  rw [hc] at hn
  have HN := Lib.hid hn
  clear h hx hc hn
  go_enter Tryz.func26, Tryz.ntmps26
  go_wp2_with fail
  refine HN.out.mono ?_
  rintro e w' ⟨rfl, rfl⟩
  go_wp2_with fail
  go_ret
  exact ⟨rfl, rfl⟩
theorem drop_nil (x : Int) (w : World) : Calls Tryz.prog 26 #[.pointer none, .int .i64 x] w fun e w' => e = .returned (.bool false) ∧ w' = w := by
  go_enter Tryz.func26, Tryz.ntmps26
  go_wp2_with fail
  refine (lockN_nil x w).mono ?_
  rintro e w' ⟨rfl, rfl⟩
  go_wp2_with fail
  go_ret
  exact ⟨rfl, rfl⟩
theorem drop_ok {wr : World} {F : Nat → Prop} {p nb : Nat} {cn : Int → Int} {ps : Int → List PutV} {ag : Int → Int} (h : LockW wr F p nb cn ps ag) (x : Int) (hx : KI x) (hc : 1 ≤ cn x) :
    Calls Tryz.prog 26 #[.pointer (some ⟨p, 0, none⟩), .int .i64 x] wr (LStep wr F p nb (cnOff cn x) (psOff ps x) ag (.bool true)) := by
  have hn := lockN h x hx
  have HN := Lib.hid hn
  obtain ⟨rl, mb, tp, tm, bk, pv, ks, ks', h⟩ := h
  have c0 := cell_of_heap h.row 0
  simp at c0
  have H := Lib.hid h; have HC := Lib.hid hc; have HX := Lib.hid hx
  obtain ⟨c, hcc⟩ : ∃ c, cn x = c := ⟨_, rfl⟩
  rw [hcc] at hc
  rw [hcc] at HN
  clear h hn hx hcc
  go_enter Tryz.func26, Tryz.ntmps26
  go_wp2_with fail
  refine HN.out.mono ?_
  rintro e w' ⟨rfl, hw⟩
  obtain rfl : wr = w' := hw.symm
  go_upto_region 4 with (at_delete; refine H.out.m.wpDel Tryz.underlying2 Tryz.underlying65 HX.out rfl rfl rfl rfl ?_; intro w2 hM hg)
  have hk : Keep (fun k => k = mb) wr w2 := (Keep.refl (fun k => k = mb) wr).grown hg (fun k _ e => (Option.some.inj e).symm)
  have hr := H.out.rp
  have hnp : p ≠ mb ∧ tp ≠ mb ∧ tm ≠ mb := ⟨(fun e => by rw [e, hr.2.1] at hr; exact nomatch hr.1), (fun e => by have h1 := hr.2.2.1; rw [e, hr.2.1] at h1; exact nomatch h1), (fun e => by have h1 := hr.2.2.2; rw [e, hr.2.1] at h1; exact nomatch h1)⟩
  have hrow2 : w2.heap[p]? = some (.cells #[.map (some mb), .pointer (some ⟨tp, 0, none⟩)] 69 (0, 0)) := by
    rw [hk.block p (lt_of_heap H.out.row) hnp.1]; exact H.out.row
  have c1 := cell_of_heap hrow2 1
  simp at c1
  have HG := Lib.hid (goneL_any tp tm nb 6 ks' ag x HX.out w2 (H.out.t.keep hk hnp.2.1 hnp.2.2))
  have HM := Lib.hid hM; have HK := Lib.hid hk; have HNP := Lib.hid hnp
  have hin : decide (x ∈ ks') = true := decide_eq_true ((H.out.tk x).2 HC.out)
  rw [hin] at HG
  clear hM hg hk hr hnp hrow2 hin c0
  go_wp2_with fail
  refine HG.out.mono ?_
  rintro e w3 ⟨rfl, hT, hk3⟩
  have HT := Lib.hid hT; have HK3 := Lib.hid hk3
  clear hT hk3
  go_wp2_with fail
  go_ret
  have hkk : Keep (fun k => k = mb ∨ k = tm) wr w3 := HK.out.trans HK3.out (fun _ _ e => .inl e) (fun _ _ e => .inr e)
  exact ⟨F, rfl, ⟨rl, mb, tp, tm, bk, pv, _, _, H.out.drop x hkk (HM.out.keep HK3.out (fun e => HNP.out.2.2 e.symm)) HT.out⟩, hkk.mono (fun k _ e => by rcases e with e | e <;> rw [e]; exact H.out.fp.2.1; exact H.out.fp.2.2.2), fun k f => .inl f⟩
theorem srt_is {ks' K : List Int} {cn : Int → Int} (h : ∀ y, y ∈ ks' ↔ 1 ≤ cn y) (hs : K.Pairwise (· < ·)) (hm : ∀ y, y ∈ K ↔ 1 ≤ cn y) : srtL ks' = K :=
  rise_uniq (srt_rise ks') hs (fun x => by rw [mem_srtL, h, hm])
theorem tids_any {wr : World} {F : Nat → Prop} {p nb : Nat} {cn : Int → Int} {ps : Int → List PutV} {ag : Int → Int} (h : LockW wr F p nb cn ps ag) {K : List Int} (hs : K.Pairwise (· < ·)) (hm : ∀ y, y ∈ K ↔ 1 ≤ cn y) (hnb : nb ≤ 100000) :
    Calls Tryz.prog 30 #[.pointer (some ⟨p, 0, none⟩)] wr fun e w' => ∃ v, e = .returned v ∧ RowP 2 wr.heap.size w' v K ∧ Keep NoF wr w' := by
  obtain ⟨rl, mb, tp, tm, bk, pv, ks, ks', h⟩ := h
  have c1 := cell_of_heap h.row 1
  simp at c1
  have hall := allL_any tp tm nb 6 ks' ag wr h.t (by omega)
  rw [srt_is h.tk hs hm] at hall
  have HALL := Lib.hid hall
  clear h hs hm hall
  go_enter Tryz.func30, Tryz.ntmps30
  go_wp2_with fail
  refine HALL.out.mono ?_
  rintro e w' ⟨v, rfl, h5, _, h7⟩
  have H5 := Lib.hid h5; have H7 := Lib.hid h7
  obtain ⟨ao, cp, rfl⟩ := row_slice h5
  clear h5 h7
  go_wp2_with fail
  go_ret
  exact ⟨_, rfl, ⟨ao, cp, rfl, by rw [flat1]; exact row_base H5.out (Nat.zero_le _), row_fresh H5.out⟩, H7.out⟩
theorem tids_nil (w : World) : Calls Tryz.prog 30 #[.pointer none] w fun e w' => e = .returned (.slice none 0 0) ∧ w' = w := by
  go_enter Tryz.func30, Tryz.ntmps30
  go_wp2_with fail
  go_ret
  exact ⟨rfl, rfl⟩
def LTick (wr : World) (F : Nat → Prop) (p nb : Nat) (cn : Int → Int) (ps : Int → List PutV) (ag : Int → Int) (K : List Int) (e : Ending) (w' : World) : Prop :=
  ∃ v, e = .returned v ∧ RowP 2 wr.heap.size w' v (K.filter fun x => decide (6 ≤ ag x + 1)) ∧ LockW w' F p (nb + K.length) cn ps (fun z => ag z + 1) ∧ Keep F wr w'
theorem tick_any {wr : World} {F : Nat → Prop} {p nb : Nat} {cn : Int → Int} {ps : Int → List PutV} {ag : Int → Int} (h : LockW wr F p nb cn ps ag) {K : List Int} (hs : K.Pairwise (· < ·)) (hm : ∀ y, y ∈ K ↔ 1 ≤ cn y) (hnb : nb + K.length ≤ 100000) :
    Calls Tryz.prog 28 #[.pointer (some ⟨p, 0, none⟩)] wr (LTick wr F p nb cn ps ag K) := by
  obtain ⟨rl, mb, tp, tm, bk, pv, ks, ks', h⟩ := h
  have c1 := cell_of_heap h.row 1
  simp at c1
  have he := srt_is h.tk hs hm
  have htk := tickL_any tp tm nb 6 ks' ag wr h.t (by rw [he]; exact hnb)
  have HTK := Lib.hid htk; have H := Lib.hid h; have HE := Lib.hid he
  clear h hs hm htk he
  go_enter Tryz.func28, Tryz.ntmps28
  go_wp2_with fail
  refine HTK.out.mono ?_
  rintro e w' ⟨v, rfl, h5, h6, h7, h8⟩
  have hl : lateL 6 ks' ag = K.filter fun x => decide (6 ≤ ag x + 1) := by unfold lateL; rw [HE.out]
  rw [hl] at h5
  rw [HE.out] at h7
  have H5 := Lib.hid h5; have H6 := Lib.hid h6; have H7 := Lib.hid h7; have H8 := Lib.hid h8
  obtain ⟨ao, cp, rfl⟩ := row_slice h5
  clear h5 h6 h7 h8 hl
  go_wp2_with fail
  go_ret
  exact ⟨_, rfl, ⟨ao, cp, rfl, by rw [flat1]; exact H5.out, H6.out⟩, ⟨rl, mb, tp, tm, bk, pv, ks, ks', H.out.timer H8.out H7.out H.out.tk (Nat.le_add_right _ _)⟩, H8.out.mono (fun k _ e => by rw [e]; exact H.out.fp.2.2.2)⟩
theorem tick_nil (w : World) : Calls Tryz.prog 28 #[.pointer none] w fun e w' => e = .returned (.slice none 0 0) ∧ w' = w := by
  go_enter Tryz.func28, Tryz.ntmps28
  go_wp2_with fail
  go_ret
  exact ⟨rfl, rfl⟩
def pC (p : PutV) : List Value := [.string p.q, .string p.b]
theorem pC_len (p : PutV) : (pC p).length = 2 := rfl
theorem pC_one (p : PutV) : ∀ u ∈ pC p, u.oneCell' = true := by
  intro u hu; simp only [pC, List.mem_cons, List.not_mem_nil, or_false] at hu; rcases hu with rfl | rfl <;> rfl
theorem pvs_flat (l : List PutV) : pvs l = l.flatMap pC := rfl
/-- A row of messages, made behind B. -/
def RowT (B : Nat) (w : World) (v : Value) (l : List PutV) : Prop := ∃ ao cp, v = .slice ao l.length cp ∧ OwnP w v l ∧ ∀ g, v.ownBlock = some g → B ≤ g
theorem eqP (a : Option Addr) (n cp : Nat) (w : World) : (binOp .eql 29 (.slice a n cp) (.slice none 0 0)).run Tryz.prog w = .ok (.bool a.isNone) w := Lib.run_eql_slice_nil w 29 28 a n cp 0 0 Tryz.underlying29
set_option maxRecDepth 8000 in
theorem clone_any (v : Value) (l : List PutV) (w : World) (h : OwnP w v l) (hl : l.length ≤ 100000) :
    Calls Tryz.prog 40 #[v] w fun e w' => ∃ v', e = .returned v' ∧ RowT w.heap.size w' v' l ∧ Keep NoF w w' := by
  have hown := h
  have hq := eqP
  rcases h.2 with ⟨rfl, hn⟩ | ⟨g, cap, cur, rfl, _, hg, hn, hc, hcs, htk⟩
  · have hl0 : l = [] := List.eq_nil_of_length_eq_zero hn
    subst hl0
    clear h hown
    go_enter Tryz.func40, Tryz.ntmps40
    go_wp2_with fail
    go_ret
    exact ⟨_, rfl, ⟨none, 0, rfl, OwnP.nil _, nofun⟩, Keep.refl _ _⟩
  · have HO := Lib.hid hown; have HL := Lib.hid hl
    clear h hown hn hc hcs htk hg
    go_enter Tryz.func40, Tryz.ntmps40
    have hq2 : ∀ W, (binOp .eql 29 (.slice (some ⟨g, 0, none⟩) l.length cap) (.slice none 0 0)).run Tryz.prog W = .ok (.bool false) W := fun W => hq _ _ _ W
    clear hq
    have HK := Lib.hid (fun o => (Keep.refl NoF w).alloc o)
    go_upto_region 3 with fail
    go_wp2_with (at_builtin; refine wpList_app 29 29 28 (.agg #[.string ByteArray.empty, .string ByteArray.empty]) 2 32 Tryz.underlying29 infoPut rfl (by decide) (by decide) rfl rfl rfl rfl (xs := []) (n := 0) ?o1 (src_upto pC_len pC_one Tryz.underlying29 (OwnP.keep HO.out (HK.out _) (fun _ _ f => f)) rfl l.length (Nat.le_refl _) _) ?o2 ?o3)
    case o1 => exact ⟨rfl, .inr ⟨w.heap.size, 0, #[], rfl, Nat.zero_le _, heap_new w _, Nat.le_refl _, by unfold maxLen; omega, rfl, rfl⟩⟩
    case o2 => omega
    intro a3 c3 w3 hown hgr hfr
    have HOW : Hid (RowT w.heap.size w3 (.slice a3 l.length c3) l) := Lib.hid ⟨a3, c3, rfl, by
      have h1 : w3.ownsRow 0 28 2 (.slice a3 l.length c3) l.length ((l.take l.length).flatMap pC) := by simpa using hown
      rw [List.take_length] at h1
      exact h1, fun g' hg' => by
        rcases hfr with f | f
        · rw [f] at hg'; injection hg' with hg'; rw [← hg']; exact Nat.le_refl _
        · rw [f] at hg'; injection hg' with hg'; rw [← hg']; simp⟩
    have HK3 : Hid (Keep NoF w w3) := Lib.hid ((HK.out _).grown hgr (fun k hk e => by injection e with e; simp at e; omega))
    have hee : (0 + l.length) = l.length := Nat.zero_add _
    (try rw [hee])
    clear hown hgr hfr hee
    go_wp2_with fail
    go_ret
    exact ⟨_, rfl, HOW.out, HK3.out⟩
set_option maxRecDepth 8000 in
theorem puts_any {wr : World} {F : Nat → Prop} {p nb : Nat} {cn : Int → Int} {ps : Int → List PutV} {ag : Int → Int} (h : LockW wr F p nb cn ps ag) (x : Int) (hx : KI x) :
    Calls Tryz.prog 15 #[.pointer (some ⟨p, 0, none⟩), .int .i64 x] wr fun e w' => ∃ v, e = .returned v ∧ RowT wr.heap.size w' v (ps x) ∧ Keep NoF wr w' := by
  have hn := lockN h x hx
  obtain ⟨rl, mb, tp, tm, bk, pv, ks, ks', h⟩ := h
  have hcr := h.cr x
  by_cases hc : 1 ≤ cn x
  · have l1 := h.look hx
    rw [if_pos hc] at l1
    have c0 := cell_of_heap h.row 0
    simp at c0
    obtain ⟨hg, ho⟩ := h.g x hc
    have cg := cell_of_heap hg 1
    simp at cg
    have HC := Lib.hid (clone_any (pv x) (ps x) wr ho (by omega))
    generalize pv x = v at cg HC
    generalize bk x = B at l1 cg
    generalize cn x = c at hn hc
    have HN := Lib.hid hn
    clear h hn hx hg ho hcr
    go_enter Tryz.func15, Tryz.ntmps15
    go_wp2_with fail
    refine HN.out.mono ?_
    rintro e w' ⟨rfl, hw⟩
    obtain rfl : wr = w' := hw.symm
    go_wp2_with fail
    refine HC.out.mono ?_
    rintro e w1 ⟨v1, rfl, h1, h2⟩
    have H1 := Lib.hid h1; have H2 := Lib.hid h2
    clear h1 h2
    go_wp2_with fail
    go_ret
    exact ⟨_, rfl, H1.out, H2.out⟩
  · have e1 : cn x = 0 := by omega
    have e2 : ps x = [] := List.eq_nil_of_length_eq_zero (by omega)
    rw [e1] at hn
    rw [e2]
    have HN := Lib.hid hn
    clear h hn hx hcr e1 e2 hc
    go_enter Tryz.func15, Tryz.ntmps15
    go_wp2_with fail
    refine HN.out.mono ?_
    rintro e w' ⟨rfl, hw⟩
    obtain rfl : wr = w' := hw.symm
    go_wp2_with fail
    go_ret
    exact ⟨_, rfl, ⟨none, 0, rfl, OwnP.nil _, nofun⟩, Keep.refl _ _⟩
theorem puts_nil (x : Int) (w : World) : Calls Tryz.prog 15 #[.pointer none, .int .i64 x] w fun e w' => e = .returned (.slice none 0 0) ∧ w' = w := by
  go_enter Tryz.func15, Tryz.ntmps15
  go_wp2_with fail
  refine (lockN_nil x w).mono ?_
  rintro e w' ⟨rfl, rfl⟩
  go_wp2_with fail
  go_ret
  exact ⟨rfl, rfl⟩
theorem lall_nil (w : World) : Calls Tryz.prog 16 #[.pointer none] w fun e w' => e = .returned (.slice none 0 0) ∧ w' = w := by
  go_enter Tryz.func16, Tryz.ntmps16
  go_wp2_with fail
  refine (tids_nil w).mono ?_
  rintro e w' ⟨rfl, hw⟩
  obtain rfl : w = w' := hw.symm
  go_wp2_with fail
  go_loopw [3, 9] (fun lv iv wr => iv = .int .i64 0 ∧ lv = .slice none 0 0 ∧ wr = w) (fun _ iv _ => 0)
  case atStart => exact ⟨rfl, rfl, rfl⟩
  case round =>
    obtain ⟨rfl, rfl, hw⟩ := hrel
    subst hw
    go_wp2_with fail
    go_ret
    exact ⟨rfl, rfl⟩
set_option maxRecDepth 8000 in
set_option maxHeartbeats 1000000 in
theorem lall_any {wr : World} {F : Nat → Prop} {p nb : Nat} {cn : Int → Int} {ps : Int → List PutV} {ag : Int → Int} (h : LockW wr F p nb cn ps ag) {K : List Int} (hs : K.Pairwise (· < ·)) (hm : ∀ y, y ∈ K ↔ 1 ≤ cn y) (hnb : nb ≤ 100000) (hK : ∀ y ∈ K, KI y) (hKl : K.length ≤ 1000) :
    Calls Tryz.prog 16 #[.pointer (some ⟨p, 0, none⟩)] wr fun e w' => ∃ v, e = .returned v ∧ RowT wr.heap.size w' v (K.flatMap ps) ∧ Keep NoF wr w' := by
  have HT := Lib.hid (tids_any h hs hm hnb)
  obtain ⟨N, hN⟩ : ∃ N, K.length = N := ⟨_, rfl⟩
  rw [hN] at hKl
  have H := Lib.hid h; have HN := Lib.hid hN; have HM := Lib.hid hm; have HKI := Lib.hid hK
  clear h hs hm hnb hK hN
  go_enter Tryz.func16, Tryz.ntmps16
  go_wp2_with fail
  refine HT.out.mono ?_
  rintro e w1 ⟨v, rfl, hrow, hk1⟩
  obtain ⟨aS, cS, rfl, hro, hfr⟩ := hrow
  rw [HN.out] at hro hfr
  rw [HN.out]
  have HRO := Lib.hid hro; have K1 := Lib.hid hk1
  clear hro hfr hk1 HT
  go_wp2_with fail
  go_loopw [3, 9] (fun lv iv wz => ∃ (j M : Nat) (al : Option Addr) (cl : Nat), j ≤ N ∧ M ≤ 10 * j ∧ iv = .int .i64 j ∧ lv = .slice al M cl ∧ ((K.take j).flatMap ps).length = M ∧ OwnP wz (.slice al M cl) ((K.take j).flatMap ps) ∧ (∀ g, (Value.slice al M cl).ownBlock = some g → w1.heap.size ≤ g) ∧ Keep NoF w1 wz) (fun _ iv _ => N - (intOf iv).toNat)
  case atStart => exact ⟨0, 0, none, 0, Nat.zero_le _, Nat.le_refl _, rfl, rfl, rfl, OwnP.nil _, nofun, Keep.refl _ _⟩
  case round =>
    obtain ⟨j, M, al, cl, hj, hMj, rfl, rfl, hfl, hO, hnew, hk⟩ := hrel
    have HFL := Lib.hid hfl; have HO := Lib.hid hO; have HNW := Lib.hid hnew; have HK := Lib.hid hk
    clear hfl hO hnew hk
    by_cases hlt : j < N
    · have hlt2 : (j : Int) < N := by omega
      have hlt3 : decide (N ≤ j) = false := by simp; omega
      have hjR : j < K.length := by rw [HN.out]; exact hlt
      obtain ⟨gr, hao, dr⟩ := row_at (row_keep HRO.out HK.out (fun _ _ f => f)) HN.out j hjR
      have HTK : Hid (K.take (j + 1) = K.take j ++ [K[j]]) := Lib.hid (List.take_succ_eq_append_getElem hjR)
      have hin : K[j] ∈ K := List.getElem_mem hjR
      generalize K[j] = x at dr HTK hin
      subst hao
      have hc := (HM.out x).1 hin
      have hx := HKI.out x hin
      obtain ⟨rl, mb, tp, tm, bk, pv, ks, ks', h⟩ := H.out
      replace h := (h.keep K1.out (fun _ _ f => f)).keep HK.out (fun _ _ f => f)
      have hcr := h.cr x
      have l1 := h.look hx
      rw [if_pos hc] at l1
      have c0 := cell_of_heap h.row 0
      simp at c0
      obtain ⟨hg, ho⟩ := h.g x hc
      have cg := cell_of_heap hg 1
      simp at cg
      obtain ⟨ax, cx, hpv⟩ := row_slice ho
      rw [hpv] at cg ho
      have HOX := Lib.hid ho
      have hxl : (ps x).length ≤ 10 := by omega
      have HPS : Hid ((K.take (j + 1)).flatMap ps = (K.take j).flatMap ps ++ ps x) := Lib.hid (by rw [HTK.out, List.flatMap_append]; simp)
      generalize ps x = q at HOX HPS hxl cg
      generalize bk x = B at l1 cg
      have HOM : Hid (wr.ownsRow 0 28 2 (.slice al M cl) M (pvs ((K.take j).flatMap ps))) := Lib.hid (by have h9 := HO.out; unfold OwnP at h9; rw [HFL.out] at h9; exact h9)
      clear h hg ho hcr hpv hx hc hin
      go_wp2_with (at_builtin; refine wpList_app 29 29 28 (.agg #[.string ByteArray.empty, .string ByteArray.empty]) 2 32 Tryz.underlying29 infoPut rfl (by decide) (by decide) rfl rfl rfl rfl HOM.out (src_upto pC_len pC_one Tryz.underlying29 HOX.out rfl q.length (Nat.le_refl _) _) (by omega) ?_)
      intro a9 c9 w9 hown hgr hfr
      have hO9 : OwnP w9 (.slice a9 (M + q.length) c9) ((K.take (j + 1)).flatMap ps) := by
        unfold OwnP
        rw [HPS.out, List.length_append, HFL.out, pvs_flat, List.flatMap_append]
        exact hown
      have hk9 : Keep NoF w1 w9 := HK.out.grown hgr (fun k hk e => by have := HNW.out k e; omega)
      have hn9 : ∀ g, (Value.slice a9 (M + q.length) c9).ownBlock = some g → w1.heap.size ≤ g := fun g hg => by
        rcases hfr with f | f
        · exact HNW.out g (by rw [← f]; exact hg)
        · rw [f] at hg; injection hg with hg; have := HK.out.size; omega
      have HO9 := Lib.hid hO9; have HK9 := Lib.hid hk9; have HN9 := Lib.hid hn9
      clear hown hgr hfr hO9 hk9 hn9
      go_wp2_with fail
      go_roundw
      case rel => exact ⟨j + 1, M + q.length, a9, c9, by omega, by omega, by go_num, rfl, by rw [HPS.out, List.length_append, HFL.out], HO9.out, HN9.out, HK9.out⟩
      case measure => simp [intOf]; omega
    · have hlt2 : ¬ (j : Int) < N := by omega
      obtain rfl : j = N := by omega
      have htk : K.take j = K := List.take_of_length_le (by rw [HN.out]; exact Nat.le_refl _)
      have hfin := HO.out
      have hfl := HFL.out
      rw [htk] at hfin hfl
      have HFIN := Lib.hid hfin; have HFL2 := Lib.hid hfl
      clear hfin hfl htk
      go_wp2_with fail
      go_ret
      exact ⟨.slice al M cl, rfl, ⟨al, cl, by rw [HFL2.out], HFIN.out, fun g hg => Nat.le_trans K1.out.size (HNW.out g hg)⟩, K1.out.trans' HK.out⟩
def NewLock (w : World) (e : Ending) (w' : World) : Prop :=
  ∃ p F, e = .returned (.pointer (some ⟨p, 0, none⟩)) ∧ LockW w' F p 0 (fun _ => 0) (fun _ => []) (fun _ => 0) ∧ Keep NoF w w' ∧ ∀ k, F k → w.heap.size ≤ k
theorem newLock_any (w : World) : Calls Tryz.prog 13 #[] w (NewLock w) := by
  have hmm := @run_makeMap Tryz.prog
  have HN := Lib.hid (fun W => newTimL_any 6 W)
  have HM := Lib.hid (MapP.made 2 w)
  have HK := Lib.hid ((Keep.refl NoF w).alloc (.map #[] 0))
  have HS : Hid ((w.alloc (.map #[] 0)).heap.size = w.heap.size + 1) := Lib.hid (by simp)
  go_enter Tryz.func13, Tryz.ntmps13
  go_wp2_with fail
  refine (HN.out _).mono ?_
  rintro e w1 ⟨tp, tm, rfl, hT, hk, hp, hb⟩
  have hM := (HM.out.keep hk (fun f => f)).keep ((Keep.refl NoF w1).alloc (.cells #[.map (some w.heap.size), .pointer (some ⟨tp, 0, none⟩)] 69)) (fun f => f)
  have hT2 := hT.keep ((Keep.refl NoF w1).alloc (.cells #[.map (some w.heap.size), .pointer (some ⟨tp, 0, none⟩)] 69)) (fun f => f) (fun f => f)
  have hrow := heap_new w1 (.cells #[.map (some w.heap.size), .pointer (some ⟨tp, 0, none⟩)] 69)
  rw [HS.out] at hp hb
  have hlt := hT.lt
  have hne := hT.ne
  have hmb : w.heap.size < w1.heap.size := HM.out.lt |> fun h => Nat.lt_of_lt_of_le h hk.size
  have HL : Hid (LockW (w1.alloc (.cells #[.map (some w.heap.size), .pointer (some ⟨tp, 0, none⟩)] 69)) (fun k => k = w1.heap.size ∨ k = w.heap.size ∨ k = tp ∨ k = tm) w1.heap.size 0 (fun _ => 0) (fun _ => []) (fun _ => 0)) := by
    refine Lib.hid ⟨fun k => if k = w1.heap.size then .p else if k = w.heap.size then .m else if k = tp then .t else .u, w.heap.size, tp, tm, fun _ => 0, fun _ => .slice none 0 0, [], [], ⟨hrow, hM, by simp, hT2, by simp, fun y hy => by omega, fun y => by simp, ⟨.inl rfl, .inr (.inl rfl), .inr (.inr (.inl rfl)), .inr (.inr (.inr rfl))⟩, fun y hy => by omega, ?_, ⟨if_pos rfl, ?_, ?_, ?_⟩, fun y hy => by omega⟩⟩
    · have hs : (w1.alloc (.cells #[.map (some w.heap.size), .pointer (some ⟨tp, 0, none⟩)] 69)).heap.size = w1.heap.size + 1 := by simp
      rintro k (rfl | rfl | rfl | rfl) <;> omega
    · rw [if_neg (by omega), if_pos rfl]
    · rw [if_neg (by omega), if_neg (by omega), if_pos rfl]
    · rw [if_neg (by omega), if_neg (by omega), if_neg (fun e => hne e.symm)]
  have HKK := Lib.hid ((HK.out.trans' hk).alloc (.cells #[.map (some w.heap.size), .pointer (some ⟨tp, 0, none⟩)] 69))
  clear hT hk hM hT2 hrow hne
  go_wp2_with fail
  go_ret
  exact ⟨_, _, rfl, HL.out, HKK.out, by rintro k (rfl | rfl | rfl | rfl) <;> omega⟩
end Go.Proofs.YtdbgplnjppaimaaGreat
