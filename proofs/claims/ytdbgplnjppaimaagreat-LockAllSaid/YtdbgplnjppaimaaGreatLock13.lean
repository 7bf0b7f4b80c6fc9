/- The lock's contracts: who goes on, how many operations each has, what each puts, for how long it was silent. -/
import Derived.Test.YtdbgplnjppaimaaGreatMap13
import Derived.Test.YtdbgplnjppaimaaGreatDec
import Derived.Deep.CutRange
open Go Go.Proofs Go.RowKit Go.Maps Go.Sort Go.Shelf
namespace Go.Proofs.YtdbgplnjppaimaaGreat
inductive Role where
  | p | m | t | u | g (y : Int) | s (y : Int)
structure LockR (wr : World) (F : Nat → Prop) (rl : Nat → Role) (p nb mb tp tm : Nat) (bk : Int → Nat) (pv : Int → Value) (ks ks' : List Int) (cn : Int → Int) (ps : Int → List PutV) (ag : Int → Int) : Prop where
  row : wr.heap[p]? = some (.cells #[.map (some mb), .pointer (some ⟨tp, 0, none⟩)] 69 (0, 0))
  m : MapP 2 wr mb nb ks bk
  km : ∀ y, y ∈ ks ↔ 1 ≤ cn y
  t : TimL wr tp tm nb 6 ks' ag
  tk : ∀ y, y ∈ ks' ↔ 1 ≤ cn y
  g : ∀ y, 1 ≤ cn y → wr.heap[bk y]? = some (.cells #[.int .i64 (cn y), pv y] 73 (0, 0)) ∧ OwnP wr (pv y) (ps y)
  cr : ∀ y, 0 ≤ cn y ∧ cn y ≤ 10 ∧ ((ps y).length : Int) ≤ cn y
  fp : F p ∧ F mb ∧ F tp ∧ F tm
  fg : ∀ y, 1 ≤ cn y → F (bk y) ∧ ∀ k, (pv y).ownBlock = some k → F k
  lt : ∀ k, F k → k < wr.heap.size
  rp : rl p = .p ∧ rl mb = .m ∧ rl tp = .t ∧ rl tm = .u
  rg : ∀ y, 1 ≤ cn y → rl (bk y) = .g y ∧ ∀ k, (pv y).ownBlock = some k → rl k = .s y
def LockW (wr : World) (F : Nat → Prop) (p nb : Nat) (cn : Int → Int) (ps : Int → List PutV) (ag : Int → Int) : Prop := ∃ rl mb tp tm bk pv ks ks', LockR wr F rl p nb mb tp tm bk pv ks ks' cn ps ag
/-- As LockW; b is the block of x. -/
def LockX (wr : World) (F : Nat → Prop) (p nb : Nat) (cn : Int → Int) (ps : Int → List PutV) (ag : Int → Int) (x : Int) (b : Nat) : Prop := ∃ rl mb tp tm bk pv ks ks', LockR wr F rl p nb mb tp tm bk pv ks ks' cn ps ag ∧ bk x = b
section
variable {wr wc : World} {F H : Nat → Prop} {rl : Nat → Role} {p nb mb tp tm : Nat} {bk : Int → Nat} {pv : Int → Value} {ks ks' : List Int} {cn : Int → Int} {ps : Int → List PutV} {ag : Int → Int}
theorem LockR.keep (h : LockR wr F rl p nb mb tp tm bk pv ks ks' cn ps ag) (hk : Keep H wr wc) (hH : ∀ k, F k → ¬ H k) : LockR wc F rl p nb mb tp tm bk pv ks ks' cn ps ag :=
  ⟨by rw [hk.block p (lt_of_heap h.row) (hH p h.fp.1)]; exact h.row, h.m.keep hk (hH mb h.fp.2.1), h.km, h.t.keep hk (hH tp h.fp.2.2.1) (hH tm h.fp.2.2.2), h.tk,
    fun y hy => ⟨by rw [hk.block (bk y) (lt_of_heap (h.g y hy).1) (hH _ (h.fg y hy).1)]; exact (h.g y hy).1, (h.g y hy).2.keep hk (fun k hk2 => hH k ((h.fg y hy).2 k hk2))⟩, h.cr, h.fp, h.fg, fun k hk2 => Nat.lt_of_lt_of_le (h.lt k hk2) hk.size, h.rp, h.rg⟩
theorem LockW.keep (h : LockW wr F p nb cn ps ag) (hk : Keep H wr wc) (hH : ∀ k, F k → ¬ H k) : LockW wc F p nb cn ps ag := by
  obtain ⟨rl, mb, tp, tm, bk, pv, ks, ks', h⟩ := h
  exact ⟨rl, mb, tp, tm, bk, pv, ks, ks', h.keep hk hH⟩
theorem LockW.lt (h : LockW wr F p nb cn ps ag) : ∀ k, F k → k < wr.heap.size := by
  obtain ⟨rl, mb, tp, tm, bk, pv, ks, ks', h⟩ := h
  exact h.lt
theorem LockW.cr (h : LockW wr F p nb cn ps ag) : ∀ y, 0 ≤ cn y ∧ cn y ≤ 10 ∧ ((ps y).length : Int) ≤ cn y := by
  obtain ⟨rl, mb, tp, tm, bk, pv, ks, ks', h⟩ := h
  exact h.cr
theorem LockR.look (h : LockR wr F rl p nb mb tp tm bk pv ks ks' cn ps ag) {x : Int} (hx : KI x) : (Instr.lookup 65 (.map (some mb)) (.int .i64 x) false).run Tryz.prog wr = .ok (.pointer (if 1 ≤ cn x then some ⟨bk x, 0, none⟩ else none)) wr := by
  rw [h.m.look Tryz.underlying2 zp13 Tryz.underlying65 hx]
  by_cases hm : 1 ≤ cn x
  · rw [if_pos ((h.km x).2 hm), if_pos hm]
  · rw [if_neg (fun e => hm ((h.km x).1 e)), if_neg hm]
theorem LockR.grow (h : LockR wr F rl p nb mb tp tm bk pv ks ks' cn ps ag) {G : Nat → Prop} (hG : ∀ k, F k → G k) (hl : ∀ k, G k → k < wr.heap.size) : LockR wr G rl p nb mb tp tm bk pv ks ks' cn ps ag :=
  ⟨h.row, h.m, h.km, h.t, h.tk, h.g, h.cr, ⟨hG _ h.fp.1, hG _ h.fp.2.1, hG _ h.fp.2.2.1, hG _ h.fp.2.2.2⟩, fun y hy => ⟨hG _ (h.fg y hy).1, fun k hk => hG _ ((h.fg y hy).2 k hk)⟩, hl, h.rp, h.rg⟩
end
theorem lockN {wr : World} {F : Nat → Prop} {p nb : Nat} {cn : Int → Int} {ps : Int → List PutV} {ag : Int → Int} (h : LockW wr F p nb cn ps ag) (x : Int) (hx : KI x) :
    Calls Tryz.prog 17 #[.pointer (some ⟨p, 0, none⟩), .int .i64 x] wr fun e w' => e = .returned (.int .i64 (cn x)) ∧ w' = wr := by
  obtain ⟨rl, mb, tp, tm, bk, pv, ks, ks', h⟩ := h
  have l1 := h.look hx
  have c0 := cell_of_heap h.row 0
  simp at c0
  by_cases hm : 1 ≤ cn x
  · rw [if_pos hm] at l1
    have cg := cell_of_heap (h.g x hm).1 0
    simp at cg
    generalize cn x = c at cg
    generalize bk x = B at l1 cg
    clear h hm hx
    go_enter Tryz.func17, Tryz.ntmps17
    go_wp2_with fail
    go_ret
    exact ⟨rfl, rfl⟩
  · rw [if_neg hm] at l1
    have hc : cn x = 0 := by have := h.cr x; omega
    rw [hc]
    clear h hm hx hc
    go_enter Tryz.func17, Tryz.ntmps17
    go_wp2_with fail
    go_ret
    exact ⟨rfl, rfl⟩
theorem lockN_nil (x : Int) (w : World) : Calls Tryz.prog 17 #[.pointer none, .int .i64 x] w fun e w' => e = .returned (.int .i64 0) ∧ w' = w := by
  go_enter Tryz.func17, Tryz.ntmps17
  go_wp2_with fail
  go_ret
  exact ⟨rfl, rfl⟩
theorem more_full {wr : World} {F : Nat → Prop} {p nb : Nat} {cn : Int → Int} {ps : Int → List PutV} {ag : Int → Int} (h : LockW wr F p nb cn ps ag) (x : Int) (hx : KI x) (hc : 10 ≤ cn x) :
    Calls Tryz.prog 39 #[.pointer (some ⟨p, 0, none⟩), .int .i64 x] wr fun e w' => e = .returned (.pointer none) ∧ w' = wr := by
  have HN := Lib.hid (lockN h x hx)
  generalize cn x = c at hc HN
  clear h hx
  go_enter Tryz.func39, Tryz.ntmps39
  go_wp2_with fail
  refine HN.out.mono ?_
  rintro e w' ⟨rfl, hw⟩
  obtain rfl : wr = w' := hw.symm
  go_wp2_with fail
  go_ret
  exact ⟨rfl, rfl⟩
theorem more_nil (x : Int) (w : World) : Calls Tryz.prog 39 #[.pointer none, .int .i64 x] w fun e w' => e = .returned (.pointer none) ∧ w' = w := by
  go_enter Tryz.func39, Tryz.ntmps39
  go_wp2_with fail
  go_ret
  exact ⟨rfl, rfl⟩
def cnUp (cn : Int → Int) (x : Int) : Int → Int := fun y => if y = x then cn x + 1 else cn y
def agUp (ag : Int → Int) (x : Int) : Int → Int := fun y => if y = x then 0 else ag y
def MorePost (wr : World) (F : Nat → Prop) (p nb : Nat) (cn : Int → Int) (ps : Int → List PutV) (ag : Int → Int) (x : Int) (e : Ending) (w' : World) : Prop :=
  ∃ F' b, e = .returned (.pointer (some ⟨b, 0, none⟩)) ∧ LockX w' F' p (nb + 1) (cnUp cn x) ps (agUp ag x) x b ∧ Keep F wr w' ∧ ∀ k, F' k → F k ∨ wr.heap.size ≤ k
set_option maxHeartbeats 4000000 in
set_option maxRecDepth 8000 in
theorem more_old {wr : World} {F : Nat → Prop} {p nb : Nat} {cn : Int → Int} {ps : Int → List PutV} {ag : Int → Int} (h : LockW wr F p nb cn ps ag) (x : Int) (hx : KI x) (hc : 1 ≤ cn x) (hc2 : cn x < 10) (hnb : nb ≤ 100000) :
    Calls Tryz.prog 39 #[.pointer (some ⟨p, 0, none⟩), .int .i64 x] wr (MorePost wr F p nb cn ps ag x) := by
  have HN := Lib.hid (lockN h x hx)
  obtain ⟨rl, mb, tp, tm, bk, pv, ks, ks', h⟩ := h
  have l1 := h.look hx
  rw [if_pos hc] at l1
  have c0 := cell_of_heap h.row 0
  have c1 := cell_of_heap h.row 1
  simp at c0 c1
  have H := Lib.hid h
  have hth := heardL_any tp tm nb 6 ks' ag x hx wr h.t (by omega)
  have HTH := Lib.hid hth
  obtain ⟨c, hcc⟩ : ∃ c, cn x = c := ⟨_, rfl⟩
  obtain ⟨B, hB⟩ : ∃ B, bk x = B := ⟨_, rfl⟩
  have HC := Lib.hid hcc; have HB := Lib.hid hB; have HX := Lib.hid hx
  rw [hcc] at HN hc hc2
  rw [hB] at l1
  have hsum : IntKind.i64.wrap (c + 1) = c + 1 := IntWalk.i64_in _ (by omega)
  clear h hth hcc hB hx hnb
  go_enter Tryz.func39, Tryz.ntmps39
  go_wp2_with fail
  refine HN.out.mono ?_
  rintro e w' ⟨rfl, hw⟩
  obtain rfl : wr = w' := hw.symm
  go_wp2_with fail
  refine HTH.out.mono ?_
  rintro e w1 ⟨rfl, hT, hk⟩
  have HT := Lib.hid hT; have HK := Lib.hid hk
  clear c0 c1 l1
  have hrow : w1.heap[p]? = some (.cells #[.map (some mb), .pointer (some ⟨tp, 0, none⟩)] 69 (0, 0)) := by
    rw [hk.block p (lt_of_heap H.out.row) (fun e => by have := H.out.rp; rw [e] at this; rw [this.1] at this; cases this.2.2.2)]; exact H.out.row
  have hmap : MapP 2 w1 mb nb ks bk := H.out.m.keep hk (fun e => by have := H.out.rp; rw [e] at this; rw [this.2.1] at this; cases this.2.2.2)
  have hgo : w1.heap[B]? = some (.cells #[.int .i64 c, pv x] 73 (0, 0)) := by
    have h1 := (H.out.g x (by rw [HC.out]; exact hc)).1
    rw [HB.out, HC.out] at h1
    rw [hk.block B (lt_of_heap h1) (fun e => by
      have h2 := (H.out.rg x (by rw [HC.out]; exact hc)).1
      rw [HB.out, e, H.out.rp.2.2.2] at h2; cases h2)]
    exact h1
  have c0 := cell_of_heap hrow 0
  simp at c0
  have cg := cell_of_heap hgo 0
  simp at cg
  have l1 : (Instr.lookup 65 (.map (some mb)) (.int .i64 x) false).run Tryz.prog w1 = .ok (.pointer (some ⟨B, 0, none⟩)) w1 := by
    rw [hmap.look Tryz.underlying2 zp13 Tryz.underlying65 HX.out, if_pos ((H.out.km x).2 (by rw [HC.out]; exact hc)), HB.out]
  have fz := free_of_heap hgo 0
  have hset : (w1.setCell ⟨B, 0, none⟩ (.int .i64 (c + 1))).heap[B]? = some (.cells #[.int .i64 (c + 1), pv x] 73 (0, 0)) := by
    simp [World.setCell, Array.getElem?_modify, hgo]
  have hks : Keep (fun k => k = B) w1 (w1.setCell ⟨B, 0, none⟩ (.int .i64 (c + 1))) := (Keep.refl (fun k => k = B) w1).setCell (p := ⟨B, 0, none⟩) (fun _ => rfl) _
  have hpB : ¬ p = B := fun e => by
    have h2 := (H.out.rg x (by rw [HC.out]; exact hc)).1
    rw [HB.out, ← e, H.out.rp.1] at h2; cases h2
  have hmB : ¬ mb = B := fun e => by
    have h2 := (H.out.rg x (by rw [HC.out]; exact hc)).1
    rw [HB.out, ← e, H.out.rp.2.1] at h2; cases h2
  have htB : ¬ tp = B := fun e => by
    have h2 := (H.out.rg x (by rw [HC.out]; exact hc)).1
    rw [HB.out, ← e, H.out.rp.2.2.1] at h2; cases h2
  have huB : ¬ tm = B := fun e => by
    have h2 := (H.out.rg x (by rw [HC.out]; exact hc)).1
    rw [HB.out, ← e, H.out.rp.2.2.2] at h2; cases h2
  have c0' : (w1.setCell ⟨B, 0, none⟩ (.int .i64 (c + 1))).cell? ⟨p, 0, none⟩ = some (.map (some mb)) := hks.cell' c0 hpB
  have l1' : (Instr.lookup 65 (.map (some mb)) (.int .i64 x) false).run Tryz.prog (w1.setCell ⟨B, 0, none⟩ (.int .i64 (c + 1))) = .ok (.pointer (some ⟨B, 0, none⟩)) (w1.setCell ⟨B, 0, none⟩ (.int .i64 (c + 1))) := by
    rw [(hmap.keep hks hmB).look Tryz.underlying2 zp13 Tryz.underlying65 HX.out, if_pos ((H.out.km x).2 (by rw [HC.out]; exact hc)), HB.out]
  have HP : Hid (LockX (w1.setCell ⟨B, 0, none⟩ (.int .i64 (c + 1))) F p (nb + 1) (cnUp cn x) ps (agUp ag x) x B) := by
    refine Lib.hid ⟨rl, mb, tp, tm, bk, pv, ks, x :: ks', ⟨?_, ?_, ?_, ?_, ?_, ?_, ?_, H.out.fp, ?_, ?_, H.out.rp, ?_⟩, HB.out⟩
    · rw [hks.block p (lt_of_heap hrow) hpB]; exact hrow
    · exact (hmap.keep hks hmB).mono (Nat.le_succ _)
    · intro y
      rw [H.out.km]
      unfold cnUp
      by_cases e : y = x
      · rw [if_pos e, e, HC.out]; omega
      · rw [if_neg e]
    · exact hT.keep hks htB huB
    · intro y
      rw [List.mem_cons, H.out.tk]
      unfold cnUp
      by_cases e : y = x
      · rw [if_pos e, e, HC.out]; omega
      · rw [if_neg e]; simp [e]
    · intro y hy
      unfold cnUp at hy ⊢
      by_cases e : y = x
      · rw [if_pos e, e, HB.out, HC.out]
        refine ⟨hset, ?_⟩
        have h2 := H.out.rg x (by rw [HC.out]; exact hc)
        refine ((H.out.g x (by rw [HC.out]; exact hc)).2.keep hk (fun k hk2 e2 => ?_)).keep hks (fun k hk2 e2 => ?_)
        · have h3 := h2.2 k hk2; rw [e2, H.out.rp.2.2.2] at h3; cases h3
        · have h3 := h2.2 k hk2; rw [e2, ← HB.out, h2.1] at h3; cases h3
      · rw [if_neg e] at hy ⊢
        have h2 := H.out.rg y hy
        have h4 := (H.out.rg x (by rw [HC.out]; exact hc)).1
        obtain ⟨g1, g2⟩ := H.out.g y hy
        have n1 : ¬ bk y = tm := fun e2 => by have h3 := h2.1; rw [e2, H.out.rp.2.2.2] at h3; cases h3
        have n2 : ¬ bk y = B := fun e2 => by have h3 := h2.1; rw [e2, ← HB.out, h4] at h3; injection h3 with h3; exact e h3.symm
        refine ⟨by rw [hks.block (bk y) (Nat.lt_of_lt_of_le (lt_of_heap g1) hk.size) n2, hk.block (bk y) (lt_of_heap g1) n1]; exact g1, (g2.keep hk (fun k hk2 e2 => ?_)).keep hks (fun k hk2 e2 => ?_)⟩
        · have h3 := h2.2 k hk2; rw [e2, H.out.rp.2.2.2] at h3; cases h3
        · have h3 := h2.2 k hk2; rw [e2, ← HB.out, h4] at h3; cases h3
    · intro y
      unfold cnUp
      by_cases e : y = x
      · rw [if_pos e, e]; have := H.out.cr x; have := HC.out; omega
      · rw [if_neg e]; exact H.out.cr y
    · intro y hy
      unfold cnUp at hy
      by_cases e : y = x
      · rw [e]; exact H.out.fg x (by rw [HC.out]; exact hc)
      · rw [if_neg e] at hy; exact H.out.fg y hy
    · intro k hk2
      exact Nat.lt_of_lt_of_le (H.out.lt k hk2) (Nat.le_trans hk.size hks.size)
    · intro y hy
      unfold cnUp at hy
      by_cases e : y = x
      · rw [e]; exact H.out.rg x (by rw [HC.out]; exact hc)
      · rw [if_neg e] at hy; exact H.out.rg y hy
  have HKF : Hid (Keep F wr (w1.setCell ⟨B, 0, none⟩ (.int .i64 (c + 1)))) := by
    have h2 := (H.out.fg x (by rw [HC.out]; exact hc)).1
    rw [HB.out] at h2
    exact Lib.hid ((hk.mono (fun k _ e => by rw [e]; exact H.out.fp.2.2.2)).trans hks (fun _ _ f => f) (fun k _ e => by rw [e]; exact h2))
  clear hT hk hrow hmap hgo hset hks hpB hmB htB huB
  go_wp2_with fail
  go_ret
  exact ⟨F, B, rfl, HP.out, HKF.out, fun k f => .inl f⟩
set_option maxHeartbeats 4000000 in
set_option maxRecDepth 8000 in
theorem more_new {wr : World} {F : Nat → Prop} {p nb : Nat} {cn : Int → Int} {ps : Int → List PutV} {ag : Int → Int} (h : LockW wr F p nb cn ps ag) (x : Int) (hx : KI x) (hc : cn x = 0) (hnb : nb ≤ 100000) :
    Calls Tryz.prog 39 #[.pointer (some ⟨p, 0, none⟩), .int .i64 x] wr (MorePost wr F p nb cn ps ag x) := by
  have hn := lockN h x hx
  rw [hc] at hn
  have HN := Lib.hid hn
  obtain ⟨rl, mb, tp, tm, bk, pv, ks, ks', h⟩ := h
  have l1 := h.look hx
  rw [if_neg (by omega)] at l1
  have c0 := cell_of_heap h.row 0
  have c1 := cell_of_heap h.row 1
  simp at c0 c1
  have hnp : rl p ≠ rl mb ∧ rl p ≠ rl tm ∧ rl mb ≠ rl tm ∧ rl tp ≠ rl mb := by rw [h.rp.1, h.rp.2.1, h.rp.2.2.1, h.rp.2.2.2]; exact ⟨nofun, nofun, nofun, nofun⟩
  have H := Lib.hid h; have HX := Lib.hid hx; have HC := Lib.hid hc; have HNP := Lib.hid hnp
  have hka : Keep NoF wr (wr.alloc (.cells #[.int .i64 0, .slice none 0 0] 73 (0, 0))) := (Keep.refl NoF wr).alloc _
  have HKA := Lib.hid hka
  have HM1 : Hid (MapP 2 (wr.alloc (.cells #[.int .i64 0, .slice none 0 0] 73 (0, 0))) mb nb ks bk) := Lib.hid (h.m.keep hka (fun f => f))
  have hnew := heap_new wr (.cells #[.int .i64 0, .slice none 0 0] 73 (0, 0))
  have HNEW := Lib.hid hnew
  clear h hn hx hc hka hnew hnp
  go_enter Tryz.func39, Tryz.ntmps39
  go_wp2_with fail
  refine HN.out.mono ?_
  rintro e w' ⟨rfl, hw⟩
  obtain rfl : wr = w' := hw.symm
  go_upto_region 5 with (at_mapUpdate; refine HM1.out.wpPut Tryz.underlying2 Tryz.underlying65 (by unfold maxLen; omega) HX.out wr.heap.size rfl rfl rfl rfl rfl ?_; intro w2 hM hg2)
  have hk2 : Keep (fun k => k = mb) wr w2 := (HKA.out.mono (fun _ _ f => f.elim)).grown hg2 (fun k _ e => (Option.some.inj e).symm)
  have hltm : mb < wr.heap.size := H.out.m.lt
  have hgo2 : w2.heap[wr.heap.size]? = some (.cells #[.int .i64 0, .slice none 0 0] 73 (0, 0)) := (hg2.block _ (lt_of_heap HNEW.out) (by simp; omega)).trans HNEW.out
  have hrow2 : w2.heap[p]? = some (.cells #[.map (some mb), .pointer (some ⟨tp, 0, none⟩)] 69 (0, 0)) := by
    rw [hk2.block p (lt_of_heap H.out.row) (fun e => HNP.out.1 (by rw [e]))]; exact H.out.row
  have ht2 : TimL w2 tp tm nb 6 ks' ag := H.out.t.keep hk2 (fun e => HNP.out.2.2.2 (by rw [e])) (fun e => HNP.out.2.2.1 (by rw [e]))
  have HK2 := Lib.hid hk2; have HM := Lib.hid hM; have HGO2 := Lib.hid hgo2; have HROW2 := Lib.hid hrow2
  have HTH := Lib.hid (heardL_any tp tm nb 6 ks' ag x HX.out w2 ht2 (by omega))
  clear c0 c1 l1 hM hg2 ht2 hk2
  have c1 := cell_of_heap hrow2 1
  simp at c1
  go_wp2_with fail
  refine HTH.out.mono ?_
  rintro e w3 ⟨rfl, hT, hk3⟩
  have hutm : ¬ wr.heap.size = tm := fun e => by have := H.out.t.lt.2; omega
  have hrow3 : w3.heap[p]? = some (.cells #[.map (some mb), .pointer (some ⟨tp, 0, none⟩)] 69 (0, 0)) := by
    rw [hk3.block p (lt_of_heap HROW2.out) (fun e => HNP.out.2.1 (by rw [e]))]; exact HROW2.out
  have hmap3 : MapP 2 w3 mb (nb + 1) (x :: ks) (fun z => if z = x then wr.heap.size else bk z) := HM.out.keep hk3 (fun e => HNP.out.2.2.1 (by rw [e]))
  have hgo3 : w3.heap[wr.heap.size]? = some (.cells #[.int .i64 0, .slice none 0 0] 73 (0, 0)) := by
    rw [hk3.block _ (lt_of_heap HGO2.out) hutm]; exact HGO2.out
  have HT := Lib.hid hT; have HK3 := Lib.hid hk3; have HGO3 := Lib.hid hgo3
  clear c1 hrow2 hgo2 hT hk3
  have c0 := cell_of_heap hrow3 0
  simp at c0
  have cg := cell_of_heap hgo3 0
  simp at cg
  have fz := free_of_heap hgo3 0
  have l1 : (Instr.lookup 65 (.map (some mb)) (.int .i64 x) false).run Tryz.prog w3 = .ok (.pointer (some ⟨wr.heap.size, 0, none⟩)) w3 := by
    rw [hmap3.look Tryz.underlying2 zp13 Tryz.underlying65 HX.out, if_pos (List.mem_cons_self ..), if_pos rfl]
  have hset : (w3.setCell ⟨wr.heap.size, 0, none⟩ (.int .i64 1)).heap[wr.heap.size]? = some (.cells #[.int .i64 1, .slice none 0 0] 73 (0, 0)) := by
    simp [World.setCell, Array.getElem?_modify, hgo3]
  have hks : Keep (fun k => k = wr.heap.size) w3 (w3.setCell ⟨wr.heap.size, 0, none⟩ (.int .i64 1)) := (Keep.refl (fun k => k = wr.heap.size) w3).setCell (p := ⟨wr.heap.size, 0, none⟩) (fun _ => rfl) _
  have hpB : ¬ p = wr.heap.size := fun e => by have := lt_of_heap H.out.row; omega
  have hmB : ¬ mb = wr.heap.size := by omega
  have htB : ¬ tp = wr.heap.size := fun e => by have := H.out.t.lt.1; omega
  have huB : ¬ tm = wr.heap.size := fun e => by have := H.out.t.lt.2; omega
  have c0' : (w3.setCell ⟨wr.heap.size, 0, none⟩ (.int .i64 1)).cell? ⟨p, 0, none⟩ = some (.map (some mb)) := hks.cell' c0 hpB
  have hmap4 := hmap3.keep hks hmB
  have l1' : (Instr.lookup 65 (.map (some mb)) (.int .i64 x) false).run Tryz.prog (w3.setCell ⟨wr.heap.size, 0, none⟩ (.int .i64 1)) = .ok (.pointer (some ⟨wr.heap.size, 0, none⟩)) (w3.setCell ⟨wr.heap.size, 0, none⟩ (.int .i64 1)) := by
    rw [hmap4.look Tryz.underlying2 zp13 Tryz.underlying65 HX.out, if_pos (List.mem_cons_self ..), if_pos rfl]
  have hk23 : Keep (fun k => k = mb ∨ k = tm) wr w3 := HK2.out.trans HK3.out (fun _ _ e => .inl e) (fun _ _ e => .inr e)
  have hk4 : Keep (fun k => k = mb ∨ k = tm) wr (w3.setCell ⟨wr.heap.size, 0, none⟩ (.int .i64 1)) := hk23.trans hks (fun _ _ e => e) (fun k hk e => by omega)
  have hps : ps x = [] := List.eq_nil_of_length_eq_zero (by have := (H.out.cr x).2.2; have := HC.out; omega)
  have hrl : ∀ k, k < wr.heap.size → (if k = wr.heap.size then Role.g x else rl k) = rl k := fun k hk => if_neg (by omega)
  have HP : Hid (LockX (w3.setCell ⟨wr.heap.size, 0, none⟩ (.int .i64 1)) (fun k => F k ∨ k = wr.heap.size) p (nb + 1) (cnUp cn x) ps (agUp ag x) x wr.heap.size) := by
    refine Lib.hid ⟨fun k => if k = wr.heap.size then Role.g x else rl k, mb, tp, tm, fun z => if z = x then wr.heap.size else bk z, fun z => if z = x then .slice none 0 0 else pv z, x :: ks, x :: ks', ⟨?_, ?_, ?_, ?_, ?_, ?_, ?_, ?_, ?_, ?_, ?_, ?_⟩, if_pos rfl⟩
    · rw [hks.block p (lt_of_heap hrow3) hpB]; exact hrow3
    · exact hmap4
    · intro y
      rw [List.mem_cons, H.out.km]
      unfold cnUp
      by_cases e : y = x
      · rw [if_pos e, e, HC.out]; omega
      · rw [if_neg e]; simp [e]
    · exact HT.out.keep hks htB huB
    · intro y
      rw [List.mem_cons, H.out.tk]
      unfold cnUp
      by_cases e : y = x
      · rw [if_pos e, e, HC.out]; omega
      · rw [if_neg e]; simp [e]
    · intro y hy
      unfold cnUp at hy ⊢
      by_cases e : y = x
      · simp only [if_pos e]
        rw [HC.out, e, hps]
        exact ⟨hset, OwnP.nil _⟩
      · simp only [if_neg e] at hy ⊢
        have h2 := H.out.rg y hy
        obtain ⟨g1, g2⟩ := H.out.g y hy
        have n1 : ¬ (bk y = mb ∨ bk y = tm) := fun e2 => by
          have h3 := h2.1
          rcases e2 with e2 | e2
          · rw [e2, H.out.rp.2.1] at h3; cases h3
          · rw [e2, H.out.rp.2.2.2] at h3; cases h3
        have n2 : ∀ k, (pv y).ownBlock = some k → ¬ (k = mb ∨ k = tm) := fun k hk2 e2 => by
          have h3 := h2.2 k hk2
          rcases e2 with e2 | e2
          · rw [e2, H.out.rp.2.1] at h3; cases h3
          · rw [e2, H.out.rp.2.2.2] at h3; cases h3
        exact ⟨by rw [hk4.block (bk y) (lt_of_heap g1) n1]; exact g1, g2.keep hk4 n2⟩
    · intro y
      unfold cnUp
      by_cases e : y = x
      · rw [if_pos e, e, hps, HC.out]; simp
      · rw [if_neg e]; exact H.out.cr y
    · exact ⟨.inl H.out.fp.1, .inl H.out.fp.2.1, .inl H.out.fp.2.2.1, .inl H.out.fp.2.2.2⟩
    · intro y hy
      unfold cnUp at hy
      by_cases e : y = x
      · simp only [if_pos e]; exact ⟨.inr trivial, nofun⟩
      · simp only [if_neg e] at hy ⊢; exact ⟨.inl (H.out.fg y hy).1, fun k hk => .inl ((H.out.fg y hy).2 k hk)⟩
    · rintro k (hk2 | rfl)
      · exact Nat.lt_of_lt_of_le (H.out.lt k hk2) hk4.size
      · exact lt_of_heap hset
    · refine ⟨?_, ?_, ?_, ?_⟩
      · rw [hrl p (lt_of_heap H.out.row)]; exact H.out.rp.1
      · rw [hrl mb hltm]; exact H.out.rp.2.1
      · rw [hrl tp H.out.t.lt.1]; exact H.out.rp.2.2.1
      · rw [hrl tm H.out.t.lt.2]; exact H.out.rp.2.2.2
    · intro y hy
      unfold cnUp at hy
      by_cases e : y = x
      · simp only [if_pos e]; exact ⟨by rw [if_pos trivial, e], nofun⟩
      · simp only [if_neg e] at hy ⊢
        have h2 := H.out.rg y hy
        have h5 := H.out.fg y hy
        exact ⟨by rw [hrl _ (H.out.lt _ h5.1)]; exact h2.1, fun k hk => by rw [hrl _ (H.out.lt _ (h5.2 k hk))]; exact h2.2 k hk⟩
  have HKF : Hid (Keep F wr (w3.setCell ⟨wr.heap.size, 0, none⟩ (.int .i64 1))) := Lib.hid (hk4.mono (fun k _ e => by rcases e with e | e <;> rw [e]; exact H.out.fp.2.1; exact H.out.fp.2.2.2))
  clear hset hks hpB hmB htB huB hmap4 hk23 hk4 hps hrl hrow3 hmap3 hgo3 hutm hltm
  go_wp2_with fail
  go_ret
  exact ⟨_, _, rfl, HP.out, HKF.out, fun k f => f.elim .inl (fun e => .inr (by rw [e]; exact Nat.le_refl _))⟩
theorem more_any {wr : World} {F : Nat → Prop} {p nb : Nat} {cn : Int → Int} {ps : Int → List PutV} {ag : Int → Int} (h : LockW wr F p nb cn ps ag) (x : Int) (hx : KI x) (hc2 : cn x < 10) (hnb : nb ≤ 100000) :
    Calls Tryz.prog 39 #[.pointer (some ⟨p, 0, none⟩), .int .i64 x] wr (MorePost wr F p nb cn ps ag x) := by
  by_cases hc : 1 ≤ cn x
  · exact more_old h x hx hc hc2 hnb
  · exact more_new h x hx (by have := h.cr x; omega) hnb
theorem took_full {wr : World} {F : Nat → Prop} {p nb : Nat} {cn : Int → Int} {ps : Int → List PutV} {ag : Int → Int} (h : LockW wr F p nb cn ps ag) (x : Int) (hx : KI x) (hc : 10 ≤ cn x) :
    Calls Tryz.prog 22 #[.pointer (some ⟨p, 0, none⟩), .int .i64 x] wr fun e w' => e = .returned (.bool false) ∧ w' = wr := by
  have HM := Lib.hid (more_full h x hx hc)
  clear h hx hc
  go_enter Tryz.func22, Tryz.ntmps22
  go_wp2_with fail
  refine HM.out.mono ?_
  rintro e w' ⟨rfl, rfl⟩
  go_wp2_with fail
  go_ret
  exact ⟨rfl, rfl⟩
theorem took_nil (x : Int) (w : World) : Calls Tryz.prog 22 #[.pointer none, .int .i64 x] w fun e w' => e = .returned (.bool false) ∧ w' = w := by
  go_enter Tryz.func22, Tryz.ntmps22
  go_wp2_with fail
  refine (more_nil x w).mono ?_
  rintro e w' ⟨rfl, rfl⟩
  go_wp2_with fail
  go_ret
  exact ⟨rfl, rfl⟩
/-- What a step of the lock leaves. -/
def LStep (wr : World) (F : Nat → Prop) (p nb : Nat) (cn : Int → Int) (ps : Int → List PutV) (ag : Int → Int) (r : Value) (e : Ending) (w' : World) : Prop :=
  ∃ F', e = .returned r ∧ LockW w' F' p nb cn ps ag ∧ Keep F wr w' ∧ ∀ k, F' k → F k ∨ wr.heap.size ≤ k
theorem took_ok {wr : World} {F : Nat → Prop} {p nb : Nat} {cn : Int → Int} {ps : Int → List PutV} {ag : Int → Int} (h : LockW wr F p nb cn ps ag) (x : Int) (hx : KI x) (hc : cn x < 10) (hnb : nb ≤ 100000) :
    Calls Tryz.prog 22 #[.pointer (some ⟨p, 0, none⟩), .int .i64 x] wr (LStep wr F p (nb + 1) (cnUp cn x) ps (agUp ag x) (.bool true)) := by
  have HM := Lib.hid (more_any h x hx hc hnb)
  clear h hx hc hnb
  go_enter Tryz.func22, Tryz.ntmps22
  go_wp2_with fail
  refine HM.out.mono ?_
  rintro e w1 ⟨F', b, rfl, hX, hk, hf⟩
  have HX := Lib.hid hX; have HK := Lib.hid hk; have HF := Lib.hid hf
  clear hX hk hf
  go_wp2_with fail
  go_ret
  obtain ⟨rl, mb, tp, tm, bk, pv, ks, ks', h1, _⟩ := HX.out
  exact ⟨F', rfl, ⟨rl, mb, tp, tm, bk, pv, ks, ks', h1⟩, HK.out, HF.out⟩
theorem put_full {wr : World} {F : Nat → Prop} {p nb : Nat} {cn : Int → Int} {ps : Int → List PutV} {ag : Int → Int} (h : LockW wr F p nb cn ps ag) (x : Int) (hx : KI x) (hc : 10 ≤ cn x) (q : PutV) :
    Calls Tryz.prog 14 #[.pointer (some ⟨p, 0, none⟩), .int .i64 x, .agg #[.string q.q, .string q.b]] wr fun e w' => e = .returned (.bool false) ∧ Keep NoF wr w' := by
  have HM := Lib.hid (fun W (hW : Keep NoF wr W) => more_full (h.keep hW (fun _ _ f => f)) x hx hc)
  have HK := Lib.hid ((Keep.refl NoF wr).alloc (.cells #[.string q.q, .string q.b] 28 (0, 0)))
  clear h hx hc
  go_enter Tryz.func14, Tryz.ntmps14
  go_wp2_with fail
  refine (HM.out _ HK.out).mono ?_
  rintro e w' ⟨rfl, rfl⟩
  go_wp2_with fail
  go_ret
  exact ⟨rfl, HK.out⟩
theorem put_nil (x : Int) (q : PutV) (w : World) : Calls Tryz.prog 14 #[.pointer none, .int .i64 x, .agg #[.string q.q, .string q.b]] w fun e w' => e = .returned (.bool false) ∧ Keep NoF w w' := by
  have HK := Lib.hid ((Keep.refl NoF w).alloc (.cells #[.string q.q, .string q.b] 28 (0, 0)))
  go_enter Tryz.func14, Tryz.ntmps14
  go_wp2_with fail
  refine (more_nil x _).mono ?_
  rintro e w' ⟨rfl, rfl⟩
  go_wp2_with fail
  go_ret
  exact ⟨rfl, HK.out⟩
def psUp (ps : Int → List PutV) (x : Int) (q : PutV) : Int → List PutV := fun y => if y = x then ps x ++ [q] else ps y
/-- A message more in the row of x. -/
theorem LockR.addPut {wr w1 wc : World} {F : Nat → Prop} {rl : Nat → Role} {p nb mb tp tm : Nat} {bk : Int → Nat} {pv : Int → Value} {ks ks' : List Int} {cn : Int → Int} {ps : Int → List PutV} {ag : Int → Int} {x : Int} {q : PutV} {v : Value}
    (h : LockR wr F rl p nb mb tp tm bk pv ks ks' cn ps ag) (hx : 1 ≤ cn x) (hk : Keep (fun k => k = bk x ∨ (pv x).ownBlock = some k) wr wc) (hg : wc.heap[bk x]? = some (.cells #[.int .i64 (cn x), v] 73 (0, 0))) (ho : OwnP wc v (ps x ++ [q]))
    (hf : v.ownBlock = (pv x).ownBlock ∨ v.ownBlock = some w1.heap.size) (hw1 : wr.heap.size ≤ w1.heap.size) (hc : ((ps x).length : Int) + 1 ≤ cn x) :
    LockR wc (fun k => F k ∨ v.ownBlock = some k) (fun k => if v.ownBlock = some k then .s x else rl k) p nb mb tp tm bk (fun y => if y = x then v else pv y) ks ks' cn (psUp ps x q) ag := by
  have hF : ∀ k, F k → rl k ≠ .s x → v.ownBlock ≠ some k := fun k hk1 hr e => by
    rcases hf with f | f
    · rw [f] at e; exact hr ((h.rg x hx).2 k e)
    · rw [f] at e; injection e with e; have := h.lt k hk1; omega
  have hH : ∀ k, F k → rl k ≠ .g x → rl k ≠ .s x → ¬ (k = bk x ∨ (pv x).ownBlock = some k) := fun k hk1 h1 h2 e => by
    rcases e with e | e
    · rw [e] at h1; exact h1 (h.rg x hx).1
    · exact h2 ((h.rg x hx).2 k e)
  have hold : ∀ k, F k → rl k ≠ .s x → (if v.ownBlock = some k then Role.s x else rl k) = rl k := fun k hk1 hr => if_neg (hF k hk1 hr)
  have r1 := h.rp
  refine ⟨?_, ?_, h.km, ?_, h.tk, ?_, ?_, ⟨.inl h.fp.1, .inl h.fp.2.1, .inl h.fp.2.2.1, .inl h.fp.2.2.2⟩, ?_, ?_, ?_, ?_⟩
  · rw [hk.block p (lt_of_heap h.row) (hH p h.fp.1 (by rw [r1.1]; exact nofun) (by rw [r1.1]; exact nofun))]; exact h.row
  · exact h.m.keep hk (hH mb h.fp.2.1 (by rw [r1.2.1]; exact nofun) (by rw [r1.2.1]; exact nofun))
  · exact h.t.keep hk (hH tp h.fp.2.2.1 (by rw [r1.2.2.1]; exact nofun) (by rw [r1.2.2.1]; exact nofun)) (hH tm h.fp.2.2.2 (by rw [r1.2.2.2]; exact nofun) (by rw [r1.2.2.2]; exact nofun))
  · intro y hy
    by_cases e : y = x
    · subst e
      simp only [if_true, psUp]
      exact ⟨hg, ho⟩
    · simp only [if_neg e, psUp]
      obtain ⟨g1, g2⟩ := h.g y hy
      have h2 := h.rg y hy
      have h3 := h.fg y hy
      have hne : ∀ z, Role.g y ≠ .g x ∧ Role.s y ≠ .s x ∧ Role.g y ≠ .s z ∧ Role.s y ≠ .g z := fun z => ⟨fun e2 => by injection e2 with e2; exact e e2, fun e2 => by injection e2 with e2; exact e e2, nofun, nofun⟩
      exact ⟨by rw [hk.block (bk y) (lt_of_heap g1) (hH _ h3.1 (by rw [h2.1]; exact (hne x).1) (by rw [h2.1]; exact (hne x).2.2.1))]; exact g1,
        g2.keep hk (fun k hk2 => hH k (h3.2 k hk2) (by rw [h2.2 k hk2]; exact (hne x).2.2.2) (by rw [h2.2 k hk2]; exact (hne x).2.1))⟩
  · intro y
    have := h.cr y
    unfold psUp
    by_cases e : y = x
    · subst e; rw [if_pos rfl, List.length_append]; simp; omega
    · rw [if_neg e]; exact this
  · intro y hy
    by_cases e : y = x
    · subst e; simp only [if_true]; exact ⟨.inl (h.fg y hy).1, fun k hk2 => .inr hk2⟩
    · simp only [if_neg e]; exact ⟨.inl (h.fg y hy).1, fun k hk2 => .inl ((h.fg y hy).2 k hk2)⟩
  · rintro k (hk2 | hk2)
    · exact Nat.lt_of_lt_of_le (h.lt k hk2) hk.size
    · exact ho.lt k hk2
  · exact ⟨by rw [hold p h.fp.1 (by rw [r1.1]; exact nofun)]; exact r1.1, by rw [hold mb h.fp.2.1 (by rw [r1.2.1]; exact nofun)]; exact r1.2.1, by rw [hold tp h.fp.2.2.1 (by rw [r1.2.2.1]; exact nofun)]; exact r1.2.2.1, by rw [hold tm h.fp.2.2.2 (by rw [r1.2.2.2]; exact nofun)]; exact r1.2.2.2⟩
  · intro y hy
    have h2 := h.rg y hy
    have h3 := h.fg y hy
    refine ⟨by rw [hold _ h3.1 (by rw [h2.1]; exact nofun)]; exact h2.1, ?_⟩
    by_cases e : y = x
    · subst e; simp only [if_true]; exact fun k hk2 => if_pos hk2
    · simp only [if_neg e]
      exact fun k hk2 => by rw [hold k (h3.2 k hk2) (by rw [h2.2 k hk2]; exact fun e2 => by injection e2 with e2; exact e e2)]; exact h2.2 k hk2
theorem putKN {wr W1 w2 wc : World} {F F' : Nat → Prop} {rl : Nat → Role} {p nb mb tp tm : Nat} {bk : Int → Nat} {pv : Int → Value} {ks ks' : List Int} {cn : Int → Int} {ps : Int → List PutV} {ag : Int → Int} {x : Int} {v : Value} {o : Obj}
    (hka : Keep NoF wr W1) (hk2 : Keep F W1 w2) (hf : ∀ k, F' k → F k ∨ W1.heap.size ≤ k) (h1 : LockR w2 F' rl p nb mb tp tm bk pv ks ks' cn ps ag) (hx : 1 ≤ cn x)
    (hks : Keep (fun k => k = bk x ∨ (pv x).ownBlock = some k) w2 wc) (hfr : v.ownBlock = (pv x).ownBlock ∨ v.ownBlock = some ((w2.alloc o).drew).heap.size) :
    Keep F wr wc ∧ ∀ k, (F' k ∨ v.ownBlock = some k) → F k ∨ wr.heap.size ≤ k := by
  have hs1 : wr.heap.size ≤ W1.heap.size := hka.size
  have hg := h1.fg x hx
  refine ⟨((hka.mono (fun _ _ f => f.elim)).trans hk2 (fun _ _ f => f) (fun _ _ f => f)).trans hks (fun _ _ f => f) ?_, ?_⟩
  · rintro k hk (e | e)
    · rcases hf k (by rw [e]; exact hg.1) with f | f
      · exact f
      · omega
    · rcases hf k (hg.2 k e) with f | f
      · exact f
      · omega
  · rintro k (f | e)
    · rcases hf k f with f | f
      · exact .inl f
      · exact .inr (by omega)
    · rcases hfr with f | f
      · rw [f] at e
        rcases hf k (hg.2 k e) with f | f
        · exact .inl f
        · exact .inr (by omega)
      · rw [f] at e; injection e with e; have := hk2.size; have : w2.heap.size ≤ ((w2.alloc o).drew).heap.size := ((Keep.refl NoF w2).alloc o).drew.size; exact .inr (by omega)
set_option maxHeartbeats 4000000 in
set_option maxRecDepth 8000 in
theorem put_ok {wr : World} {F : Nat → Prop} {p nb : Nat} {cn : Int → Int} {ps : Int → List PutV} {ag : Int → Int} (h : LockW wr F p nb cn ps ag) (x : Int) (hx : KI x) (hc : cn x < 10) (hnb : nb ≤ 100000) (q : PutV) :
    Calls Tryz.prog 14 #[.pointer (some ⟨p, 0, none⟩), .int .i64 x, .agg #[.string q.q, .string q.b]] wr (LStep wr F p (nb + 1) (cnUp cn x) (psUp ps x q) (agUp ag x) (.bool true)) := by
  obtain ⟨q, b⟩ := q
  have HM := Lib.hid (fun W (hW : Keep NoF wr W) => more_any (h.keep hW (fun _ _ f => f)) x hx hc hnb)
  have HCR := Lib.hid (h.cr x)
  have hka := (Keep.refl NoF wr).alloc (.cells #[.string q, .string b] 28 (0, 0))
  have hnew := heap_new wr (.cells #[.string q, .string b] 28 (0, 0))
  have HLT := Lib.hid h.lt
  clear h hx hc hnb
  go_enter Tryz.func14, Tryz.ntmps14
  obtain ⟨D, hhD⟩ : ∃ D, wr.heap.size = D := ⟨_, rfl⟩
  go_upto_region 1 with fail
  show Code.wp _ _ _ _ (wr.alloc (.cells #[.string q, .string b] 28 (0, 0)))
  rw [hhD] at hnew
  generalize wr.alloc (.cells #[.string q, .string b] 28 (0, 0)) = W1 at hka hnew ⊢
  (try rw [hhD])
  have HKA := Lib.hid hka; have HNEW := Lib.hid hnew; have HHD := Lib.hid hhD
  clear hka hnew hhD
  go_wp2_with fail
  refine (HM.out W1 HKA.out).mono ?_
  rintro e w2 ⟨F', B, rfl, hX, hk2, hf⟩
  obtain ⟨rl, mb, tp, tm, bk, pv, ks, ks', h1, hB⟩ := hX
  have hx1 : 1 ≤ cnUp cn x x := by unfold cnUp; rw [if_pos rfl]; have := HCR.out; omega
  obtain ⟨hg, ho⟩ := h1.g x hx1
  have hd2 : w2.heap[D]? = some (.cells #[.string q, .string b] 28 (0, 0)) := by
    rw [hk2.block D (lt_of_heap HNEW.out) (fun f => by have := HLT.out D f; have := HHD.out; omega)]; exact HNEW.out
  rw [hB] at hg
  have c1 := cell_of_heap hg 1
  have d0 := cell_of_heap hd2 0
  have d1 := cell_of_heap hd2 1
  have fz := free_of_heap hg 1
  simp at c1 d0 d1
  have HG := Lib.hid hg; have HO := Lib.hid ho; have H1 := Lib.hid h1; have HB := Lib.hid hB; have HX1 := Lib.hid hx1; have HK2 := Lib.hid hk2; have HF := Lib.hid hf
  clear hg ho h1 hB hx1 hk2 hf hd2
  have hlen : (ps x).length ≤ 10 := by have := HCR.out; omega
  have hne : ¬ (pv x).ownBlock = some B := fun e => by
    have h1 := H1.out.rg x HX1.out
    have h2 := h1.2 B e
    rw [← HB.out, h1.1] at h2; cases h2
  have HNE := Lib.hid hne
  clear hne
  have HOA : Hid (∀ o, ((w2.alloc o).drew).ownsRow 0 28 2 (pv x) (ps x).length (pvs (ps x))) := Lib.hid fun o => OwnP.keep HO.out ((Keep.refl NoF w2).alloc o).drew (fun _ _ f => f)
  have hSrc : ∀ o : Obj, o = .cells #[.string q, .string b] 28 (0, 0) → Src Tryz.prog 2 29 (.slice (some ⟨w2.heap.size, 0, none⟩) 1 1) 1 [.string q, .string b] ((w2.alloc o).drew) := by
    rintro o rfl
    exact Src.two Tryz.underlying29 (show ((w2.alloc (.cells #[.string q, .string b] 28 (0, 0))).drew).heap[w2.heap.size]? = _ from heap_new w2 _) 1
  have HSrc := Lib.hid hSrc
  clear hSrc
  have c1a : ∀ o, (w2.alloc o).cell? ⟨B, 1, none⟩ = some (pv x) := fun o => ((Keep.refl NoF w2).alloc o).cell' c1 (fun f => f)
  go_upto_region 4 with fail
  refine wp_region_noPanic ?_
  refine wp_region_held_drew (S := (fun _ : World => True)) (by kernel_rfl) (trivial) (fun hHeld => ?_)
  refine wpAnyH_take (i := 0) (oi := ?oQ0) (v := ?vQ0) ?hiQ0 (by kernel_rfl) (by kernel_rfl) (by kernel_rfl) (fun _ _ _ h => h) (Or.inl ⟨?wQ0, ?yQ0⟩) (by assumption) ?rQ0
  case hiQ0 => (simp only [List.getElem?_toArray, List.getElem?_cons_zero]; try rfl)
  case wQ0 => rfl
  case yQ0 => (intro w hSw; (try dsimp only at hSw); go_simp; (try with_reducible rfl))
  (try simp only [Act.put, List.setIfInBounds_toArray, List.set_cons_zero, List.set_cons_succ])
  refine wpAnyH_take (i := 1) (oi := ?oQ1) (v := ?vQ1) ?hiQ1 (by kernel_rfl) (by kernel_rfl) (by kernel_rfl) (fun _ _ _ h => h) (Or.inl ⟨?wQ1, ?yQ1⟩) (by assumption) ?rQ1
  case hiQ1 => (simp only [List.getElem?_toArray, List.getElem?_cons_succ, List.getElem?_cons_zero]; try rfl)
  case wQ1 => rfl
  case yQ1 => (intro w hSw; (try dsimp only at hSw); go_simp; (try with_reducible rfl))
  (try simp only [Act.put, List.setIfInBounds_toArray, List.set_cons_zero, List.set_cons_succ])
  refine wpAnyH_take (i := 2) (oi := ?oQ2) (v := ?vQ2) ?hiQ2 (by kernel_rfl) (by kernel_rfl) (by kernel_rfl) (fun _ _ _ h => h) (Or.inl ⟨?wQ2, ?yQ2⟩) (by assumption) ?rQ2
  case hiQ2 => (simp only [List.getElem?_toArray, List.getElem?_cons_succ, List.getElem?_cons_zero]; try rfl)
  case wQ2 => rfl
  case yQ2 => (intro w hSw; (try dsimp only at hSw); go_simp; (try with_reducible rfl))
  (try simp only [Act.put, List.setIfInBounds_toArray, List.set_cons_zero, List.set_cons_succ])
  refine wpAnyH_take (i := 3) (oi := ?oQ3) (v := ?vQ3) ?hiQ3 (by kernel_rfl) (by kernel_rfl) (by kernel_rfl) (fun _ _ _ h => h) (Or.inl ⟨?wQ3, ?yQ3⟩) (by assumption) ?rQ3
  case hiQ3 => (simp only [List.getElem?_toArray, List.getElem?_cons_succ, List.getElem?_cons_zero]; try rfl)
  case wQ3 => rfl
  case yQ3 => (intro w hSw; (try dsimp only at hSw); go_simp; (try with_reducible rfl))
  (try simp only [Act.put, List.setIfInBounds_toArray, List.set_cons_zero, List.set_cons_succ])
  refine wpAnyH_ready (rs := [4, 5]) (by kernel_rfl) (by simp) ?_
  refine (AllReadyH.cons (o := ?oQ4) ?hiQ4 (fun K hK => ?_) (AllReadyH.cons (o := ?oQ5) ?hiQ5 (fun K hK => ?_) AllReadyH.nil))
  case hiQ4 => (simp only [List.getElem?_toArray, List.getElem?_cons_succ, List.getElem?_cons_zero]; try rfl)
  case hiQ5 => (simp only [List.getElem?_toArray, List.getElem?_cons_succ, List.getElem?_cons_zero]; try rfl)
  · go_simp
    refine hK.out _ _ (trivial) (fun hHeld => ?_)
    clear hK K
    (try simp only [Act.put, List.setIfInBounds_toArray, List.set_cons_zero, List.set_cons_succ])
    refine wpAnyH_ready (rs := [5]) (by kernel_rfl) (by simp) ?_
    refine AllReadyH.cons (o := ?oQa5) ?hiQa5 (fun K hK => ?_) AllReadyH.nil
    case hiQa5 => (simp only [List.getElem?_toArray, List.getElem?_cons_succ, List.getElem?_cons_zero]; try rfl)
    go_simp
    refine hK.out _ _ (trivial) (fun hHeld => ?_)
    clear hK K
    (try simp only [Act.put, List.setIfInBounds_toArray, List.set_cons_zero, List.set_cons_succ])
    refine wpAnyH_ready (rs := [6]) (by kernel_rfl) (by simp) ?_
    refine AllReadyH.cons (o := ?oQa6) ?hiQa6 (fun K hK => ?_) AllReadyH.nil
    case hiQa6 => (simp only [List.getElem?_toArray, List.getElem?_cons_succ, List.getElem?_cons_zero]; try rfl)
    go_simp
    refine hK.out _ _ (trivial) (fun hHeld => ?_)
    clear hK K
    (try simp only [Act.put, List.setIfInBounds_toArray, List.set_cons_zero, List.set_cons_succ])
    refine wpAnyH_ready (rs := [7]) (by kernel_rfl) (by simp) ?_
    refine AllReadyH.cons (o := ?oQa7) ?hiQa7 (fun K hK => ?_) AllReadyH.nil
    case hiQa7 => (simp only [List.getElem?_toArray, List.getElem?_cons_succ, List.getElem?_cons_zero]; try rfl)
    refine step_app 29 29 28 (.agg #[.string ByteArray.empty, .string ByteArray.empty]) 2 32 Tryz.underlying29 infoPut rfl (by decide) (by decide) rfl rfl rfl rfl (v := pv x) (HOA.out _) (HSrc.out _ rfl) (by omega) ?_
    intro a3 c3 w3 hown hgr hfr
    replace hgr : World.grownBy ((w2.alloc (.cells #[.string q, .string b] 28 (0, 0))).drew) w3 (pv x).ownBlock := hgr
    replace hfr : (Value.slice a3 ((ps x).length + 1) c3).ownBlock = (pv x).ownBlock ∨ (Value.slice a3 ((ps x).length + 1) c3).ownBlock = some ((w2.alloc (.cells #[.string q, .string b] 28 (0, 0))).drew).heap.size := hfr
    have hkd : Keep NoF w2 ((w2.alloc (.cells #[.string q, .string b] 28 (0, 0))).drew) := ((Keep.refl NoF w2).alloc _).drew
    have hg3 : w3.heap[B]? = some (.cells #[.int .i64 (cnUp cn x x), pv x] 73 (0, 0)) := (hgr.block B (Nat.lt_of_lt_of_le (lt_of_heap HG.out) hkd.size) (fun e => HNE.out e.symm)).trans ((hkd.block B (lt_of_heap HG.out) (fun f => f)).trans HG.out)
    have cB := cell_of_heap hg3 1
    simp at cB
    have fB := free_of_heap hg3 1
    have HG3 := Lib.hid hg3; have HOWN := Lib.hid hown; have HGR := Lib.hid hgr; have HFR := Lib.hid hfr
    clear hown hgr hfr hg3 hkd
    refine hK.out _ _ (trivial) (fun hHeld => ?_)
    clear hK K
    (try simp only [Act.put, List.setIfInBounds_toArray, List.set_cons_zero, List.set_cons_succ])
    refine wpAnyH_take (i := 8) (oi := ?oQa8) (v := ?vQa8) ?hiQa8 (by kernel_rfl) (by kernel_rfl) (by kernel_rfl) (fun _ _ _ h => h) (Or.inl ⟨?wQa8, ?yQa8⟩) (by assumption) ?rQa8
    case hiQa8 => (simp only [List.getElem?_toArray, List.getElem?_cons_succ, List.getElem?_cons_zero]; try rfl)
    case wQa8 => rfl
    case yQa8 => (intro w hSw; (try dsimp only at hSw); go_simp; (try with_reducible rfl))
    (try simp only [Act.put, List.setIfInBounds_toArray, List.set_cons_zero, List.set_cons_succ])
    refine wpAnyH_take (i := 9) (oi := ?oQa9) (v := ?vQa9) ?hiQa9 (by kernel_rfl) (by kernel_rfl) (by kernel_rfl) (fun _ _ _ h => h) (Or.inl ⟨?wQa9, ?yQa9⟩) (by assumption) ?rQa9
    case hiQa9 => (simp only [List.getElem?_toArray, List.getElem?_cons_succ, List.getElem?_cons_zero]; try rfl)
    case wQa9 => rfl
    case yQa9 => (intro w hSw; (try dsimp only at hSw); go_simp; (try with_reducible rfl))
    (try simp only [Act.put, List.setIfInBounds_toArray, List.set_cons_zero, List.set_cons_succ])
    refine wpAnyH_ready (rs := [10]) (by kernel_rfl) (by simp) ?_
    refine AllReadyH.cons (o := ?oQa10) ?hiQa10 (fun K hK => ?_) AllReadyH.nil
    case hiQa10 => (simp only [List.getElem?_toArray, List.getElem?_cons_succ, List.getElem?_cons_zero]; try rfl)
    go_simp
    refine hK.out _ _ (trivial) (fun hHeld => ?_)
    clear hK K
    (try simp only [Act.put, List.setIfInBounds_toArray, List.set_cons_zero, List.set_cons_succ])
    refine wpAnyH_done (by kernel_rfl) ?_ _
    refine NoPanic.normal ?_
    have hx1 := HX1.out
    have hset : (w3.setCell ⟨B, 1, none⟩ (.slice a3 ((ps x).length + 1) c3)).heap[B]? = some (.cells #[.int .i64 (cnUp cn x x), .slice a3 ((ps x).length + 1) c3] 73 (0, 0)) := by
      simp [World.setCell, Array.getElem?_modify, HG3.out]
    have hkA : Keep (fun k => k = bk x ∨ (pv x).ownBlock = some k) w2 w3 := (((Keep.refl NoF w2).alloc _).drew.mono (fun _ _ f => f.elim)).grown HGR.out (fun k _ e => .inr e)
    have hks : Keep (fun k => k = bk x ∨ (pv x).ownBlock = some k) w2 (w3.setCell ⟨B, 1, none⟩ (.slice a3 ((ps x).length + 1) c3)) := hkA.setCell (p := ⟨B, 1, none⟩) (fun _ => .inl HB.out.symm) _
    have ho3 : OwnP (w3.setCell ⟨B, 1, none⟩ (.slice a3 ((ps x).length + 1) c3)) (.slice a3 ((ps x).length + 1) c3) (ps x ++ [⟨q, b⟩]) := by
      have h1 : OwnP w3 (.slice a3 ((ps x).length + 1) c3) (ps x ++ [⟨q, b⟩]) := by
        have h2 := HOWN.out
        unfold OwnP
        rw [List.length_append, pvs, List.flatMap_append]
        exact h2
      refine h1.keep ((Keep.refl (fun k => k = B) w3).setCell (p := ⟨B, 1, none⟩) (fun _ => rfl) _) (fun k hk e => ?_)
      rcases HFR.out with f | f
      · rw [f, e] at hk; exact HNE.out hk
      · rw [f] at hk; injection hk with hk; have := lt_of_heap HG.out; have : w2.heap.size ≤ ((w2.alloc (.cells #[.string q, .string b] 28 (0, 0))).drew).heap.size := ((Keep.refl NoF w2).alloc _).drew.size; omega
    have HLR := H1.out.addPut (w1 := ((w2.alloc (.cells #[.string q, .string b] 28 (0, 0))).drew)) (q := ⟨q, b⟩) hx1 hks (by rw [HB.out]; exact hset) ho3 HFR.out ((Keep.refl NoF w2).alloc _).drew.size (by have := HCR.out; unfold cnUp; rw [if_pos rfl]; omega)
    have hfin := putKN HKA.out HK2.out HF.out H1.out hx1 hks HFR.out
    clear cB fB
    go_wp2_with fail
    go_ret
    exact ⟨_, rfl, ⟨_, mb, tp, tm, bk, _, ks, ks', HLR⟩, hfin.1, hfin.2⟩
  · go_simp
    refine hK.out _ _ (trivial) (fun hHeld => ?_)
    clear hK K
    (try simp only [Act.put, List.setIfInBounds_toArray, List.set_cons_zero, List.set_cons_succ])
    refine wpAnyH_ready (rs := [4, 6]) (by kernel_rfl) (by simp) ?_
    refine (AllReadyH.cons (o := ?oQb4) ?hiQb4 (fun K hK => ?_) (AllReadyH.cons (o := ?oQb6) ?hiQb6 (fun K hK => ?_) AllReadyH.nil))
    case hiQb4 => (simp only [List.getElem?_toArray, List.getElem?_cons_succ, List.getElem?_cons_zero]; try rfl)
    case hiQb6 => (simp only [List.getElem?_toArray, List.getElem?_cons_succ, List.getElem?_cons_zero]; try rfl)
    · go_simp
      refine hK.out _ _ (trivial) (fun hHeld => ?_)
      clear hK K
      (try simp only [Act.put, List.setIfInBounds_toArray, List.set_cons_zero, List.set_cons_succ])
      refine wpAnyH_ready (rs := [6]) (by kernel_rfl) (by simp) ?_
      refine AllReadyH.cons (o := ?oQba6) ?hiQba6 (fun K hK => ?_) AllReadyH.nil
      case hiQba6 => (simp only [List.getElem?_toArray, List.getElem?_cons_succ, List.getElem?_cons_zero]; try rfl)
      go_simp
      refine hK.out _ _ (trivial) (fun hHeld => ?_)
      clear hK K
      (try simp only [Act.put, List.setIfInBounds_toArray, List.set_cons_zero, List.set_cons_succ])
      refine wpAnyH_ready (rs := [7]) (by kernel_rfl) (by simp) ?_
      refine AllReadyH.cons (o := ?oQba7) ?hiQba7 (fun K hK => ?_) AllReadyH.nil
      case hiQba7 => (simp only [List.getElem?_toArray, List.getElem?_cons_succ, List.getElem?_cons_zero]; try rfl)
      refine step_app 29 29 28 (.agg #[.string ByteArray.empty, .string ByteArray.empty]) 2 32 Tryz.underlying29 infoPut rfl (by decide) (by decide) rfl rfl rfl rfl (v := pv x) (HOA.out _) (HSrc.out _ rfl) (by omega) ?_
      intro a3 c3 w3 hown hgr hfr
      replace hgr : World.grownBy ((w2.alloc (.cells #[.string q, .string b] 28 (0, 0))).drew) w3 (pv x).ownBlock := hgr
      replace hfr : (Value.slice a3 ((ps x).length + 1) c3).ownBlock = (pv x).ownBlock ∨ (Value.slice a3 ((ps x).length + 1) c3).ownBlock = some ((w2.alloc (.cells #[.string q, .string b] 28 (0, 0))).drew).heap.size := hfr
      have hkd : Keep NoF w2 ((w2.alloc (.cells #[.string q, .string b] 28 (0, 0))).drew) := ((Keep.refl NoF w2).alloc _).drew
      have hg3 : w3.heap[B]? = some (.cells #[.int .i64 (cnUp cn x x), pv x] 73 (0, 0)) := (hgr.block B (Nat.lt_of_lt_of_le (lt_of_heap HG.out) hkd.size) (fun e => HNE.out e.symm)).trans ((hkd.block B (lt_of_heap HG.out) (fun f => f)).trans HG.out)
      have cB := cell_of_heap hg3 1
      simp at cB
      have fB := free_of_heap hg3 1
      have HG3 := Lib.hid hg3; have HOWN := Lib.hid hown; have HGR := Lib.hid hgr; have HFR := Lib.hid hfr
      clear hown hgr hfr hg3 hkd
      refine hK.out _ _ (trivial) (fun hHeld => ?_)
      clear hK K
      (try simp only [Act.put, List.setIfInBounds_toArray, List.set_cons_zero, List.set_cons_succ])
      refine wpAnyH_take (i := 8) (oi := ?oQba8) (v := ?vQba8) ?hiQba8 (by kernel_rfl) (by kernel_rfl) (by kernel_rfl) (fun _ _ _ h => h) (Or.inl ⟨?wQba8, ?yQba8⟩) (by assumption) ?rQba8
      case hiQba8 => (simp only [List.getElem?_toArray, List.getElem?_cons_succ, List.getElem?_cons_zero]; try rfl)
      case wQba8 => rfl
      case yQba8 => (intro w hSw; (try dsimp only at hSw); go_simp; (try with_reducible rfl))
      (try simp only [Act.put, List.setIfInBounds_toArray, List.set_cons_zero, List.set_cons_succ])
      refine wpAnyH_take (i := 9) (oi := ?oQba9) (v := ?vQba9) ?hiQba9 (by kernel_rfl) (by kernel_rfl) (by kernel_rfl) (fun _ _ _ h => h) (Or.inl ⟨?wQba9, ?yQba9⟩) (by assumption) ?rQba9
      case hiQba9 => (simp only [List.getElem?_toArray, List.getElem?_cons_succ, List.getElem?_cons_zero]; try rfl)
      case wQba9 => rfl
      case yQba9 => (intro w hSw; (try dsimp only at hSw); go_simp; (try with_reducible rfl))
      (try simp only [Act.put, List.setIfInBounds_toArray, List.set_cons_zero, List.set_cons_succ])
      refine wpAnyH_ready (rs := [10]) (by kernel_rfl) (by simp) ?_
      refine AllReadyH.cons (o := ?oQba10) ?hiQba10 (fun K hK => ?_) AllReadyH.nil
      case hiQba10 => (simp only [List.getElem?_toArray, List.getElem?_cons_succ, List.getElem?_cons_zero]; try rfl)
      go_simp
      refine hK.out _ _ (trivial) (fun hHeld => ?_)
      clear hK K
      (try simp only [Act.put, List.setIfInBounds_toArray, List.set_cons_zero, List.set_cons_succ])
      refine wpAnyH_done (by kernel_rfl) ?_ _
      refine NoPanic.normal ?_
      have hx1 := HX1.out
      have hset : (w3.setCell ⟨B, 1, none⟩ (.slice a3 ((ps x).length + 1) c3)).heap[B]? = some (.cells #[.int .i64 (cnUp cn x x), .slice a3 ((ps x).length + 1) c3] 73 (0, 0)) := by
        simp [World.setCell, Array.getElem?_modify, HG3.out]
      have hkA : Keep (fun k => k = bk x ∨ (pv x).ownBlock = some k) w2 w3 := (((Keep.refl NoF w2).alloc _).drew.mono (fun _ _ f => f.elim)).grown HGR.out (fun k _ e => .inr e)
      have hks : Keep (fun k => k = bk x ∨ (pv x).ownBlock = some k) w2 (w3.setCell ⟨B, 1, none⟩ (.slice a3 ((ps x).length + 1) c3)) := hkA.setCell (p := ⟨B, 1, none⟩) (fun _ => .inl HB.out.symm) _
      have ho3 : OwnP (w3.setCell ⟨B, 1, none⟩ (.slice a3 ((ps x).length + 1) c3)) (.slice a3 ((ps x).length + 1) c3) (ps x ++ [⟨q, b⟩]) := by
        have h1 : OwnP w3 (.slice a3 ((ps x).length + 1) c3) (ps x ++ [⟨q, b⟩]) := by
          have h2 := HOWN.out
          unfold OwnP
          rw [List.length_append, pvs, List.flatMap_append]
          exact h2
        refine h1.keep ((Keep.refl (fun k => k = B) w3).setCell (p := ⟨B, 1, none⟩) (fun _ => rfl) _) (fun k hk e => ?_)
        rcases HFR.out with f | f
        · rw [f, e] at hk; exact HNE.out hk
        · rw [f] at hk; injection hk with hk; have := lt_of_heap HG.out; have : w2.heap.size ≤ ((w2.alloc (.cells #[.string q, .string b] 28 (0, 0))).drew).heap.size := ((Keep.refl NoF w2).alloc _).drew.size; omega
      have HLR := H1.out.addPut (w1 := ((w2.alloc (.cells #[.string q, .string b] 28 (0, 0))).drew)) (q := ⟨q, b⟩) hx1 hks (by rw [HB.out]; exact hset) ho3 HFR.out ((Keep.refl NoF w2).alloc _).drew.size (by have := HCR.out; unfold cnUp; rw [if_pos rfl]; omega)
      have hfin := putKN HKA.out HK2.out HF.out H1.out hx1 hks HFR.out
      clear cB fB
      go_wp2_with fail
      go_ret
      exact ⟨_, rfl, ⟨_, mb, tp, tm, bk, _, ks, ks', HLR⟩, hfin.1, hfin.2⟩
    · go_simp
      refine hK.out _ _ (trivial) (fun hHeld => ?_)
      clear hK K
      (try simp only [Act.put, List.setIfInBounds_toArray, List.set_cons_zero, List.set_cons_succ])
      refine wpAnyH_ready (rs := [4]) (by kernel_rfl) (by simp) ?_
      refine AllReadyH.cons (o := ?oQbb4) ?hiQbb4 (fun K hK => ?_) AllReadyH.nil
      case hiQbb4 => (simp only [List.getElem?_toArray, List.getElem?_cons_succ, List.getElem?_cons_zero]; try rfl)
      go_simp
      refine hK.out _ _ (trivial) (fun hHeld => ?_)
      clear hK K
      (try simp only [Act.put, List.setIfInBounds_toArray, List.set_cons_zero, List.set_cons_succ])
      refine wpAnyH_ready (rs := [7]) (by kernel_rfl) (by simp) ?_
      refine AllReadyH.cons (o := ?oQbb7) ?hiQbb7 (fun K hK => ?_) AllReadyH.nil
      case hiQbb7 => (simp only [List.getElem?_toArray, List.getElem?_cons_succ, List.getElem?_cons_zero]; try rfl)
      refine step_app 29 29 28 (.agg #[.string ByteArray.empty, .string ByteArray.empty]) 2 32 Tryz.underlying29 infoPut rfl (by decide) (by decide) rfl rfl rfl rfl (v := pv x) (HOA.out _) (HSrc.out _ rfl) (by omega) ?_
      intro a3 c3 w3 hown hgr hfr
      replace hgr : World.grownBy ((w2.alloc (.cells #[.string q, .string b] 28 (0, 0))).drew) w3 (pv x).ownBlock := hgr
      replace hfr : (Value.slice a3 ((ps x).length + 1) c3).ownBlock = (pv x).ownBlock ∨ (Value.slice a3 ((ps x).length + 1) c3).ownBlock = some ((w2.alloc (.cells #[.string q, .string b] 28 (0, 0))).drew).heap.size := hfr
      have hkd : Keep NoF w2 ((w2.alloc (.cells #[.string q, .string b] 28 (0, 0))).drew) := ((Keep.refl NoF w2).alloc _).drew
      have hg3 : w3.heap[B]? = some (.cells #[.int .i64 (cnUp cn x x), pv x] 73 (0, 0)) := (hgr.block B (Nat.lt_of_lt_of_le (lt_of_heap HG.out) hkd.size) (fun e => HNE.out e.symm)).trans ((hkd.block B (lt_of_heap HG.out) (fun f => f)).trans HG.out)
      have cB := cell_of_heap hg3 1
      simp at cB
      have fB := free_of_heap hg3 1
      have HG3 := Lib.hid hg3; have HOWN := Lib.hid hown; have HGR := Lib.hid hgr; have HFR := Lib.hid hfr
      clear hown hgr hfr hg3 hkd
      refine hK.out _ _ (trivial) (fun hHeld => ?_)
      clear hK K
      (try simp only [Act.put, List.setIfInBounds_toArray, List.set_cons_zero, List.set_cons_succ])
      refine wpAnyH_take (i := 8) (oi := ?oQbb8) (v := ?vQbb8) ?hiQbb8 (by kernel_rfl) (by kernel_rfl) (by kernel_rfl) (fun _ _ _ h => h) (Or.inl ⟨?wQbb8, ?yQbb8⟩) (by assumption) ?rQbb8
      case hiQbb8 => (simp only [List.getElem?_toArray, List.getElem?_cons_succ, List.getElem?_cons_zero]; try rfl)
      case wQbb8 => rfl
      case yQbb8 => (intro w hSw; (try dsimp only at hSw); go_simp; (try with_reducible rfl))
      (try simp only [Act.put, List.setIfInBounds_toArray, List.set_cons_zero, List.set_cons_succ])
      refine wpAnyH_take (i := 9) (oi := ?oQbb9) (v := ?vQbb9) ?hiQbb9 (by kernel_rfl) (by kernel_rfl) (by kernel_rfl) (fun _ _ _ h => h) (Or.inl ⟨?wQbb9, ?yQbb9⟩) (by assumption) ?rQbb9
      case hiQbb9 => (simp only [List.getElem?_toArray, List.getElem?_cons_succ, List.getElem?_cons_zero]; try rfl)
      case wQbb9 => rfl
      case yQbb9 => (intro w hSw; (try dsimp only at hSw); go_simp; (try with_reducible rfl))
      (try simp only [Act.put, List.setIfInBounds_toArray, List.set_cons_zero, List.set_cons_succ])
      refine wpAnyH_ready (rs := [10]) (by kernel_rfl) (by simp) ?_
      refine AllReadyH.cons (o := ?oQbb10) ?hiQbb10 (fun K hK => ?_) AllReadyH.nil
      case hiQbb10 => (simp only [List.getElem?_toArray, List.getElem?_cons_succ, List.getElem?_cons_zero]; try rfl)
      go_simp
      refine hK.out _ _ (trivial) (fun hHeld => ?_)
      clear hK K
      (try simp only [Act.put, List.setIfInBounds_toArray, List.set_cons_zero, List.set_cons_succ])
      refine wpAnyH_done (by kernel_rfl) ?_ _
      refine NoPanic.normal ?_
      have hx1 := HX1.out
      have hset : (w3.setCell ⟨B, 1, none⟩ (.slice a3 ((ps x).length + 1) c3)).heap[B]? = some (.cells #[.int .i64 (cnUp cn x x), .slice a3 ((ps x).length + 1) c3] 73 (0, 0)) := by
        simp [World.setCell, Array.getElem?_modify, HG3.out]
      have hkA : Keep (fun k => k = bk x ∨ (pv x).ownBlock = some k) w2 w3 := (((Keep.refl NoF w2).alloc _).drew.mono (fun _ _ f => f.elim)).grown HGR.out (fun k _ e => .inr e)
      have hks : Keep (fun k => k = bk x ∨ (pv x).ownBlock = some k) w2 (w3.setCell ⟨B, 1, none⟩ (.slice a3 ((ps x).length + 1) c3)) := hkA.setCell (p := ⟨B, 1, none⟩) (fun _ => .inl HB.out.symm) _
      have ho3 : OwnP (w3.setCell ⟨B, 1, none⟩ (.slice a3 ((ps x).length + 1) c3)) (.slice a3 ((ps x).length + 1) c3) (ps x ++ [⟨q, b⟩]) := by
        have h1 : OwnP w3 (.slice a3 ((ps x).length + 1) c3) (ps x ++ [⟨q, b⟩]) := by
          have h2 := HOWN.out
          unfold OwnP
          rw [List.length_append, pvs, List.flatMap_append]
          exact h2
        refine h1.keep ((Keep.refl (fun k => k = B) w3).setCell (p := ⟨B, 1, none⟩) (fun _ => rfl) _) (fun k hk e => ?_)
        rcases HFR.out with f | f
        · rw [f, e] at hk; exact HNE.out hk
        · rw [f] at hk; injection hk with hk; have := lt_of_heap HG.out; have : w2.heap.size ≤ ((w2.alloc (.cells #[.string q, .string b] 28 (0, 0))).drew).heap.size := ((Keep.refl NoF w2).alloc _).drew.size; omega
      have HLR := H1.out.addPut (w1 := ((w2.alloc (.cells #[.string q, .string b] 28 (0, 0))).drew)) (q := ⟨q, b⟩) hx1 hks (by rw [HB.out]; exact hset) ho3 HFR.out ((Keep.refl NoF w2).alloc _).drew.size (by have := HCR.out; unfold cnUp; rw [if_pos rfl]; omega)
      have hfin := putKN HKA.out HK2.out HF.out H1.out hx1 hks HFR.out
      clear cB fB
      go_wp2_with fail
      go_ret
      exact ⟨_, rfl, ⟨_, mb, tp, tm, bk, _, ks, ks', HLR⟩, hfin.1, hfin.2⟩
end Go.Proofs.YtdbgplnjppaimaaGreat
