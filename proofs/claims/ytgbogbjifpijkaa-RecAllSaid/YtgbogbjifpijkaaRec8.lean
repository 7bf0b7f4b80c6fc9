/- The laws' own helper over records: Record. -/
import Derived.Test.YtgbogbjifpijkaaArgs8
open Go Go.RowKit
namespace Go.Proofs.Ytgbogbjifpijkaa

def cutP (p : PutV) : PutV := ⟨cutT p.q 10, cutT p.b 62⟩
def recCut (r : RecV) : RecV := { r with parts := r.parts.take 9, puts := (r.puts.take 12).map cutP }
theorem results_rec1 {fn : Func} {p : Tmp} (h : fn.results = #[.cell p 38]) (tmps : Array Value) (w : World) (Z : Nat) (cs : Array Value) (T : TypeId) (fr : Nat × Nat)
    (hp : tmps.getD p undef = .pointer (some ⟨Z, 0, none⟩)) (hg : w.heap[Z]? = some (.cells cs T fr)) (hs : cs.size = 6) :
    (results fn tmps).run Try.prog w = .ok (.agg cs) w := by
  have hi : (Try.prog.info? 38).map (·.size) = some cs.size := by rw [hs]; kernel_rfl
  exact results_cell_row h tmps w Z T cs fr _ hp hg Try.underlying38 rfl hi
theorem src_sli {P : Program} {w : World} {ao : Option Addr} {cp : Nat} {l : List Int} {n : Nat} (h : SlI w ao cp l) (hn : l.length = n) {t e : TypeId} (ht : P.underlying t = some (.slice e)) :
    Src P 1 t (.slice ao n cp) n (ivs l) w := by
  subst hn
  cases ao with
  | none =>
    have h0 : l = [] := by
      cases l with
      | nil => rfl
      | cons x l => obtain ⟨g, off, e, _⟩ := h.2.2.2 0 (by simp); cases e
    subst h0
    exact Src.ofNil w ht cp
  | some a =>
    refine Src.ofSlice w ht a _ _ _ (by simp [ivs]) ?_ (by intro u hu; obtain ⟨x, _, rfl⟩ := List.mem_map.1 hu; rfl)
    intro j v hv
    simp only [ivs, List.getElem?_map] at hv
    have hj : j < l.length := by
      rcases Nat.lt_or_ge j l.length with h | h
      · exact h
      · rw [List.getElem?_eq_none h] at hv; cases hv
    obtain ⟨g, off, e, hc⟩ := h.2.2.2 j hj
    have e' : a = ⟨g, off, none⟩ := by injection e
    subst e'
    rw [List.getElem?_eq_getElem hj] at hv
    simp at hv
    subst hv
    rw [← hc]
    congr 1
    simp [Addr.add]
theorem SlI.take {w : World} {ao : Option Addr} {cp : Nat} {l : List Int} (h : SlI w ao cp l) (n : Nat) : SlI w ao cp (l.take n) := by
  refine ⟨Nat.le_trans (by simp; omega) h.1, h.2.1, fun x hx => h.2.2.1 x (List.mem_of_mem_take hx), fun i hi => ?_⟩
  have hi' : i < l.length := by simp at hi; omega
  obtain ⟨g, off, e, hc⟩ := h.2.2.2 i hi'
  exact ⟨g, off, e, by rw [hc]; simp⟩
/-- A row of puts that grows. -/
structure LI (w1 wr : World) (v : Value) (us : List PutV) : Prop where
  own : OwnP wr v us
  keep : Keep NoF w1 wr
  new : ∀ j, v.ownBlock = some j → w1.heap.size ≤ j

theorem cutT_ok (s : ByteArray) (n : Nat) (hn : n ≤ 100) : (cutT s n).size ≤ maxLen := by have := cutT_size s n; unfold maxLen; omega
theorem mem_cutP {l : List PutV} {p : PutV} (h : p ∈ (l.take 12).map cutP) : p.q.size ≤ maxLen ∧ p.b.size ≤ maxLen := by
  obtain ⟨q, _, rfl⟩ := List.mem_map.1 h
  exact ⟨cutT_ok _ _ (by omega), cutT_ok _ _ (by omega)⟩

/-- What Record hands back. -/
def RecPost (w : World) (r : RecV) (e : Ending) (w' : World) : Prop :=
  ∃ a4 c4 a5 c5, e = .returned (recVal (recCut r) a4 c4 a5 c5) ∧ RecAt w' (recCut r) a4 c4 a5 c5 ∧ Keep NoF w w' ∧ (∀ j, blockOf a4 = some j → w.heap.size ≤ j) ∧ (∀ j, blockOf a5 = some j → w.heap.size ≤ j) ∧
    OwnI w' (.slice a4 (recCut r).parts.length c4) (recCut r).parts ∧ OwnP w' (.slice a5 (recCut r).puts.length c5) (recCut r).puts ∧ (∀ j, blockOf a4 = some j → blockOf a5 ≠ some j)

set_option maxHeartbeats 4000000 in
theorem record8_any (r : RecV) (a4 : Option Addr) (c4 : Nat) (a5 : Option Addr) (c5 : Nat) (w : World) (h : RecAt w r a4 c4 a5 c5) :
    Calls Try.prog 30 #[recVal r a4 c4 a5 c5] w (RecPost w r) := by
  have H := Lib.hid h
  have hcp4 := h.parts.1
  have hcp4b := h.parts.2.1
  have hcp5 := h.puts.1
  have hcp5b := h.puts.2.1
  unfold maxLen at hcp4b hcp5b
  obtain ⟨k, t, i, y, ps, us⟩ := r
  unfold recVal
  simp only at hcp4 hcp5 ⊢
  clear h
  go_enter Try.func30, Try.ntmps30
  go_wp2_with fail
  obtain ⟨B, hB⟩ : ∃ B, w.heap.size = B := ⟨_, rfl⟩
  have hb := heap_new w (.cells (recCells k t i y (.slice a4 ps.length c4) (.slice a5 us.length c5)) 38 (0, 0))
  have hz := heap_new (w.alloc (.cells (recCells k t i y (.slice a4 ps.length c4) (.slice a5 us.length c5)) 38 (0, 0))) (.cells (recCells 0 0 0 false (.slice none 0 0) (.slice none 0 0)) 38 (0, 0))
  have hb2 := (keep_alloc (w.alloc (.cells (recCells k t i y (.slice a4 ps.length c4) (.slice a5 us.length c5)) 38 (0, 0))) (.cells (recCells 0 0 0 false (.slice none 0 0) (.slice none 0 0)) 38 (0, 0))).block w.heap.size (lt_of_heap hb) (fun f => f)
  rw [hb] at hb2
  have hk1 : Keep NoF w ((w.alloc (.cells (recCells k t i y (.slice a4 ps.length c4) (.slice a5 us.length c5)) 38 (0, 0))).alloc (.cells (recCells 0 0 0 false (.slice none 0 0) (.slice none 0 0)) 38 (0, 0))) := (keep_alloc _ _).alloc _
  have hsz : (w.alloc (.cells (recCells k t i y (.slice a4 ps.length c4) (.slice a5 us.length c5)) 38 (0, 0))).heap.size = B + 1 := by rw [← hB]; simp
  rw [hsz] at hz
  rw [hB] at hb2 ⊢
  show Code.wp _ _ _ _ ((w.alloc (.cells (recCells k t i y (.slice a4 ps.length c4) (.slice a5 us.length c5)) 38 (0, 0))).alloc (.cells (recCells 0 0 0 false (.slice none 0 0) (.slice none 0 0)) 38 (0, 0)))
  generalize (w.alloc (.cells (recCells k t i y (.slice a4 ps.length c4) (.slice a5 us.length c5)) 38 (0, 0))).alloc (.cells (recCells 0 0 0 false (.slice none 0 0) (.slice none 0 0)) 38 (0, 0)) = W1 at hz hb2 hk1 ⊢
  have HBB : Hid (w.heap.size ≤ B) := Lib.hid (by omega)
  have HROW := Lib.hid hb2; have HZ := Lib.hid hz; have K1 := Lib.hid hk1
  clear hb hz hb2 hk1 hsz hB
  go_loopw [3, 4] (fun lv iv wr => ∃ j : Nat, j ≤ us.length ∧ j ≤ 12 ∧ iv = .int .i64 j ∧ LI W1 wr lv ((us.take j).map cutP)) (fun _ iv _ => us.length - (intOf iv).toNat)
  case atStart => exact ⟨0, Nat.zero_le _, by omega, rfl, OwnP.nil _, Keep.refl _ _, nofun⟩
  case round =>
    obtain ⟨j, hj, hj12, rfl, hL⟩ := hrel
    have HL := Lib.hid hL
    clear hL
    have hrow : wr.heap[B]? = some (.cells (recCells k t i y (.slice a4 ps.length c4) (.slice a5 us.length c5)) 38 (0, 0)) := by
      rw [HL.out.keep.block B (lt_of_heap HROW.out) (fun f => f)]; exact HROW.out
    have e5 := cell_of_heap hrow 5
    simp [recCells] at e5
    have HROWr := Lib.hid hrow
    clear hrow
    by_cases hgo : j < us.length ∧ j < 12
    · obtain ⟨hlt, h12⟩ := hgo
      obtain ⟨g, off, rfl, c0, c1⟩ := (H.out.puts.keep K1.out (fun _ _ f => f)).2.2.2 j hlt
      have htk : (us.take (j + 1)).map cutP = (us.take j).map cutP ++ [cutP us[j]] := by rw [List.take_succ_eq_append_getElem hlt, List.map_append]; rfl
      obtain ⟨p, hp⟩ : ∃ p, us[j] = p := ⟨_, rfl⟩
      simp only at c0 c1
      rw [hp] at c0 c1 htk
      obtain ⟨pq, pb⟩ := p
      simp only at c0 c1
      have HTK := Lib.hid htk
      have hlen : ((us.take j).map cutP).length = j := by rw [List.length_map, List.length_take]; omega
      have hown := HL.out.own
      unfold OwnP at hown
      rw [hlen] at hown
      have HLEN := Lib.hid hlen
      have hj1 : (j : Int) < us.length := by omega
      have hj2 : (j : Int) < 12 := by omega
      have HOWN := Lib.hid hown
      have cu1 := fun W => cut_any pq 10 W (by decide)
      have cu2 := fun W => cut_any pb 62 W (by decide)
      have CU1 := Lib.hid cu1; have CU2 := Lib.hid cu2
      clear htk hp hlen hown cu1 cu2
      have hcc : ∀ W, Keep NoF W1 W → W.cell? ⟨B, 5, none⟩ = some (.slice (some ⟨g, off, none⟩) us.length c5) ∧ W.cell? ⟨g, off + j * 2, none⟩ = some (.string pq) ∧ W.cell? ⟨g, off + j * 2 + 1, none⟩ = some (.string pb) := fun W hW => by
        have h2 : W.heap[B]? = some (.cells (recCells k t i y (.slice a4 ps.length c4) (.slice (some ⟨g, off, none⟩) us.length c5)) 38 (0, 0)) := by rw [hW.block B (lt_of_heap HROW.out) (fun f => f)]; exact HROW.out
        exact ⟨by rw [cell_of_heap h2]; rfl, hW.cell' c0 (fun f => f), hW.cell' c1 (fun f => f)⟩
      have HCC := Lib.hid hcc
      obtain ⟨f0, f1, f2⟩ := HCC.out wr HL.out.keep
      clear e5 c0 c1 hcc
      go_wp2_with fail
      go_region_held3 (fun W' : World => W'.cell? ⟨B, 5, none⟩ = some (.slice (some ⟨g, off, none⟩) us.length c5) ∧ W'.cell? ⟨g, off + j * 2, none⟩ = some (.string pq) ∧ W'.cell? ⟨g, off + j * 2 + 1, none⟩ = some (.string pb))
        (first | assumption | exact HCC.out _ K9.out | go_keep)
        (first
        | (go_at_call_of 15 pq; refine (CU1.out _).mono ?_; rintro e wz ⟨rfl, hw⟩; have hws := hw.symm; clear hw; subst hws)
        | (go_at_call_of 15 pb; refine (CU2.out _).mono ?_; rintro e wz ⟨rfl, hw⟩; have hws := hw.symm; clear hw; subst hws)
        | (refine step_app 36 36 29 (.agg #[.string ByteArray.empty, .string ByteArray.empty]) 2 32 Try.underlying36 infoPut rfl (by decide) (by decide) rfl rfl rfl rfl (HOWN.out.alloc _).drew (Src.two (w := World.drew (World.alloc wr _)) Try.underlying36 (heap_new wr _) 1) (by omega) ?_; intro ao9 cp9 w9 hown9 hgr9 hfr9; have HO9 := Lib.hid hown9; have HG9 := Lib.hid hgr9; have HF9 := Lib.hid hfr9; have K9 := Lib.hid ((HL.out.keep.trans' ((Keep.refl NoF wr).alloc (.cells #[.string (cutT pq 10), .string (cutT pb 62)] 29 (0, 0))).drew).grown hgr9 (fun q hq e => by have := HL.out.new q e; omega)); clear hown9 hgr9 hfr9))
      all_goals
        go_wp2_with fail
        go_roundw
        case rel =>
          have hO : OwnP w9 (.slice ao9 (j + 1) cp9) (((us.take (j + 1))).map cutP) := by
            rw [HTK.out, OwnP, List.length_append, HLEN.out, pvs, List.flatMap_append]; exact HO9.out
          refine ⟨j + 1, by omega, by omega, by go_num, hO, K9.out, fun q hq => ?_⟩
          rcases HF9.out with f | f
          · exact HL.out.new q (by rw [← hq]; exact f.symm)
          · rw [f] at hq; injection hq with hq
            have := HL.out.keep.size
            have e9 : (World.drew (World.alloc wr (.cells #[.string (cutT pq 10), .string (cutT pb 62)] 29))).heap.size = wr.heap.size + 1 := by simp
            omega
        case measure => simp [intOf]; omega
    · have htk : (us.take j).map cutP = (us.take 12).map cutP := by
        rcases Nat.lt_or_ge j us.length with h | h
        · have : j = 12 := by omega
          rw [this]
        · rw [List.take_of_length_le h, List.take_of_length_le (by omega)]
      rw [htk] at HL
      obtain ⟨ao, cp, hlv, sp, hbk⟩ := HL.out.own.sl (fun p hp => mem_cutP hp)
      subst hlv
      have hjt : ((j : Int) < us.length ∧ ¬ (j : Int) < 12) ∨ ¬ ((j : Int) < us.length) := by omega
      have hfz := free_of_heap HROWr.out 5
      have hnew : ∀ q, blockOf ao = some q → W1.heap.size ≤ q ∧ q < wr.heap.size := fun q hq => by
        rw [hbk] at hq
        exact ⟨HL.out.new q hq, HL.out.own.lt q hq⟩
      have hB1 := lt_of_heap HROW.out
      have hZ1 := lt_of_heap HZ.out
      have hsz1 := K1.out.size
      obtain ⟨L, hlv⟩ : ∃ n, ((us.take 12).map cutP).length = n := ⟨_, rfl⟩
      rw [hlv] at HL hbk ⊢
      have hs1 := set1 HROWr.out (j := 5) (.slice ao L cp)
      have hk0 : Keep (fun x => x = B) wr (wr.setCell ⟨B, 5, none⟩ (.slice ao L cp)) := (Keep.refl (fun x => x = B) wr).setCell (p := ⟨B, 5, none⟩) (fun _ => rfl) (.slice ao L cp)
      have hk1 : Keep NoF w (wr.setCell ⟨B, 5, none⟩ (.slice ao L cp)) := (K1.out.trans' HL.out.keep).setCell (p := ⟨B, 5, none⟩) (fun h => by have := HBB.out; simp only at h; omega) _
      have hp4 : SlI (wr.setCell ⟨B, 5, none⟩ (.slice ao L cp)) a4 c4 ps := H.out.parts.keep hk1 (fun _ _ f => f)
      have c4w : (wr.setCell ⟨B, 5, none⟩ (.slice ao L cp)).cell? ⟨B, 4, none⟩ = some (.slice a4 ps.length c4) := by rw [cell_of_heap hs1]; rfl
      have hsp : SlP (wr.setCell ⟨B, 5, none⟩ (.slice ao L cp)) ao cp ((us.take 12).map cutP) := sp.keep hk0 (fun g hg e => by have := hnew g hg; omega)
      have hop : OwnP (wr.setCell ⟨B, 5, none⟩ (.slice ao L cp)) (.slice ao L cp) ((us.take 12).map cutP) := HL.out.own.keep hk0 (fun g hg e => by rw [← hbk] at hg; have := hnew g hg; omega)
      have hzz : (wr.setCell ⟨B, 5, none⟩ (.slice ao L cp)).heap[B + 1]? = some (.cells (recCells 0 0 0 false (.slice none 0 0) (.slice none 0 0)) 38 (0, 0)) := by
        rw [hk0.block (B + 1) (by have := HL.out.keep.size; omega) (by omega), HL.out.keep.block (B + 1) hZ1 (fun f => f)]; exact HZ.out
      have hwa : W1.heap.size ≤ (wr.setCell ⟨B, 5, none⟩ (.slice ao L cp)).heap.size := Nat.le_trans HL.out.keep.size hk0.size
      have hsrc := src_sli (P := Try.prog) (hp4.take 9) rfl Try.underlying35
      have HS1 := Lib.hid hs1; have HKA := Lib.hid hk1; have HSP := Lib.hid hsp; have HOP := Lib.hid hop; have HBK := Lib.hid hbk; have HZZ := Lib.hid hzz; have HSRC := Lib.hid hsrc; have HLV := Lib.hid hlv; have HNEW := Lib.hid hnew; have HWA := Lib.hid hwa; have HBZ : Hid (B + 1 < W1.heap.size) := Lib.hid hZ1
      clear hs1 hk0 hk1 hsp hop hzz hsrc hlv hp4 hnew sp hbk htk hB1 hZ1 hsz1 hwa
      have hlp : (9 < ps.length ∧ (ps.take 9).length = 9 ∧ (9 : Int) ≤ c4) ∨ (¬ 9 < ps.length ∧ (ps.take 9).length = ps.length ∧ (ps.length : Int) ≤ c4) := by
        rcases Nat.lt_or_ge 9 ps.length with h | h
        · exact .inl ⟨h, by rw [List.length_take]; omega, by omega⟩
        · exact .inr ⟨by omega, by rw [List.length_take]; omega, by omega⟩
      rcases hjt with ⟨hj1, hj2⟩ | hj1
      · rcases hlp with ⟨hp9, htl, hcc⟩ | ⟨hp9, htl, hcc⟩
        · rw [htl] at HSRC
          go_wp2_with (at_builtin; refine wpList_app 35 35 3 (.int .i64 0) 1 8 Try.underlying35 infoI64 rfl (by decide) (by decide) rfl rfl rfl rfl (World.ownsRow_nil _ _ _ _) HSRC.out (by omega) ?_)
          intro a6 c6 w9 hown hgr hfr
          have hO : OwnI w9 (.slice a6 9 c6) (ps.take 9) := by rw [OwnI, htl]; simpa using hown
          obtain ⟨a7, c7, e7, s6, bk6⟩ := hO.sl (fun n hn => H.out.parts.2.2.1 n (List.mem_of_mem_take hn))
          obtain ⟨rfl, -, rfl⟩ : a6 = a7 ∧ 9 = (ps.take 9).length ∧ c6 = c7 := by injection e7 with x y z; exact ⟨x, y, z⟩
          have hk9 := HKA.out.grown hgr (fun k _ e => by cases e)
          have hkw : Keep NoF (wr.setCell ⟨B, 5, none⟩ (.slice ao L cp)) w9 := (Keep.refl NoF _).grown hgr (fun k _ e => by cases e)
          have hrow9 : w9.heap[B]? = some (.cells (recCells k t i y (.slice a4 ps.length c4) (.slice ao L cp)) 38 (0, 0)) := by
            rw [hkw.block B (lt_of_heap HS1.out) (fun f => f)]; exact HS1.out
          have hz9 : w9.heap[B + 1]? = some (.cells (recCells 0 0 0 false (.slice none 0 0) (.slice none 0 0)) 38 (0, 0)) := by
            rw [hkw.block (B + 1) (lt_of_heap HZZ.out) (fun f => f)]; exact HZZ.out
          have hb6 : ∀ g, blockOf a6 = some g → W1.heap.size ≤ g := fun g hg => by
            rw [bk6] at hg
            rcases hfr with f | f
            · rw [f] at hg; cases hg
            · rw [f] at hg; injection hg with hg; have := HWA.out; simp at this; omega
          have hkB : Keep (fun x => x = B) w9 (w9.setCell ⟨B, 4, none⟩ (.slice a6 9 c6)) := (Keep.refl (fun x => x = B) w9).setCell (p := ⟨B, 4, none⟩) (fun _ => rfl) (.slice a6 9 c6)
          have hdis : ∀ g, blockOf a6 = some g → blockOf ao ≠ some g := fun g hg e => by
            rw [bk6] at hg
            rcases hfr with f | f
            · rw [f] at hg; cases hg
            · rw [f] at hg; injection hg with hg; have := HNEW.out g e; omega
          have hO2 : OwnI (w9.setCell ⟨B, 4, none⟩ (.slice a6 9 c6)) (.slice a6 9 c6) (ps.take 9) := hO.keep hkB (fun g hg e => by rw [← bk6] at hg; have := hb6 g hg; have := HBZ.out; omega)
          have hP2 : OwnP (w9.setCell ⟨B, 4, none⟩ (.slice a6 9 c6)) (.slice ao L cp) ((us.take 12).map cutP) := (HOP.out.keep hkw (fun _ _ f => f)).keep hkB (fun g hg e => by rw [← HBK.out] at hg; have := HNEW.out g hg; have := HBZ.out; omega)
          have OWN := Lib.hid (And.intro hO2 (And.intro hP2 hdis))
          have hrow2 := set1 hrow9 (j := 4) (.slice a6 9 c6)
          have hz2 : (w9.setCell ⟨B, 4, none⟩ (.slice a6 9 c6)).heap[B + 1]? = some (.cells (recCells 0 0 0 false (.slice none 0 0) (.slice none 0 0)) 38 (0, 0)) := by
            rw [hkB.block (B + 1) (lt_of_heap hz9) (by omega)]; exact hz9
          have hk10 : Keep NoF w (w9.setCell ⟨B, 4, none⟩ (.slice a6 9 c6)) := hk9.setCell (p := ⟨B, 4, none⟩) (fun h => by have := HBB.out; simp only at h; omega) _
          have fz9 := free_of_heap hrow9 4; have c49 := cell_of_heap hrow9 4
          have q0 := cell_of_heap hrow2 0; have q1 := cell_of_heap hrow2 1; have q2 := cell_of_heap hrow2 2; have q3 := cell_of_heap hrow2 3; have q4 := cell_of_heap hrow2 4; have q5 := cell_of_heap hrow2 5
          have z0 := cell_of_heap hz2 0; have z1 := cell_of_heap hz2 1; have z2 := cell_of_heap hz2 2; have z3 := cell_of_heap hz2 3; have z4 := cell_of_heap hz2 4; have z5 := cell_of_heap hz2 5
          have y0 := free_of_heap hz2 0; have y1 := free_of_heap hz2 1; have y2 := free_of_heap hz2 2; have y3 := free_of_heap hz2 3; have y4 := free_of_heap hz2 4; have y5 := free_of_heap hz2 5
          simp [recCells] at c49 q0 q1 q2 q3 q4 q5 z0 z1 z2 z3 z4 z5
          have FIN : Hid (SlI (w9.setCell ⟨B, 4, none⟩ (.slice a6 9 c6)) a6 c6 (ps.take 9) ∧ SlP (w9.setCell ⟨B, 4, none⟩ (.slice a6 9 c6)) ao cp ((us.take 12).map cutP) ∧ Keep NoF w (w9.setCell ⟨B, 4, none⟩ (.slice a6 9 c6)) ∧
              (∀ g, blockOf a6 = some g → W1.heap.size ≤ g) ∧ (w9.setCell ⟨B, 4, none⟩ (.slice a6 9 c6)).heap[B + 1]? = some (.cells (recCells 0 0 0 false (.slice none 0 0) (.slice none 0 0)) 38 (0, 0))) :=
            Lib.hid ⟨s6.keep hkB (fun g hg e => by have := hb6 g hg; have := HBZ.out; omega), (HSP.out.keep hkw (fun _ _ f => f)).keep hkB (fun g hg e => by have := HNEW.out g hg; have := HBZ.out; omega), hk10, hb6, hz2⟩
          have HTL := Lib.hid htl
          have HBK6 := Lib.hid bk6
          clear hown hgr hfr hO hdis hO2 hP2 bk6 s6 hk9 hkw hrow9 hz9 hb6 hkB hrow2 hz2 hk10 e7 htl
          go_wp2_with fail
          (try simp only [Exit.inBlock, Exit.then])
          have h6 := set6 FIN.out.2.2.2.2 (.int .i64 k) (.int .i64 t) (.int .i64 i) (.bool y) (.slice a6 9 c6) (.slice ao L cp)
          refine bodyPost_ret (results_rec1 rfl _ _ (B + 1) _ _ _ rfl h6.1 rfl) rfl ?_
          have hfin := FIN.out
          refine ⟨a6, c6, ao, cp, ?_, ⟨H.out.kind, H.out.tid, H.out.id, ?_, ?_⟩, ?_, fun g hg => ?_, fun g hg => ?_, ?_, ?_, OWN.out.2.2⟩
          · have e1 := HTL.out; have e2 := HLV.out; unfold recVal recCut; simp only [e1, e2]
          · exact hfin.1.keep h6.2 (fun g hg e => by have := hfin.2.2.2.1 g hg; have := HBZ.out; omega)
          · exact hfin.2.1.keep h6.2 (fun g hg e => by have := HNEW.out g hg; have := HBZ.out; omega)
          · exact hfin.2.2.1.trans h6.2 (fun _ _ f => f) (fun x hx e => by have := HBB.out; omega)
          · have := hfin.2.2.2.1 g hg; have := HBZ.out; have := HBB.out; have := K1.out.size; omega
          · have := HNEW.out g hg; have := HBZ.out; have := HBB.out; have := K1.out.size; omega
          · have e1 := HTL.out; unfold recCut; simp only; rw [e1]; exact OWN.out.1.keep h6.2 (fun g hg e => by rw [← HBK6.out] at hg; have := hfin.2.2.2.1 g hg; have := HBZ.out; omega)
          · have e2 := HLV.out; unfold recCut; simp only; rw [e2]; exact OWN.out.2.1.keep h6.2 (fun g hg e => by rw [← HBK.out] at hg; have := HNEW.out g hg; have := HBZ.out; omega)
        · rw [htl] at HSRC
          go_wp2_with (at_builtin; refine wpList_app 35 35 3 (.int .i64 0) 1 8 Try.underlying35 infoI64 rfl (by decide) (by decide) rfl rfl rfl rfl (World.ownsRow_nil _ _ _ _) HSRC.out (by omega) ?_)
          intro a6 c6 w9 hown hgr hfr
          have hO : OwnI w9 (.slice a6 ps.length c6) (ps.take 9) := by rw [OwnI, htl]; simpa using hown
          obtain ⟨a7, c7, e7, s6, bk6⟩ := hO.sl (fun n hn => H.out.parts.2.2.1 n (List.mem_of_mem_take hn))
          obtain ⟨rfl, -, rfl⟩ : a6 = a7 ∧ ps.length = (ps.take 9).length ∧ c6 = c7 := by injection e7 with x y z; exact ⟨x, y, z⟩
          have hk9 := HKA.out.grown hgr (fun k _ e => by cases e)
          have hkw : Keep NoF (wr.setCell ⟨B, 5, none⟩ (.slice ao L cp)) w9 := (Keep.refl NoF _).grown hgr (fun k _ e => by cases e)
          have hrow9 : w9.heap[B]? = some (.cells (recCells k t i y (.slice a4 ps.length c4) (.slice ao L cp)) 38 (0, 0)) := by
            rw [hkw.block B (lt_of_heap HS1.out) (fun f => f)]; exact HS1.out
          have hz9 : w9.heap[B + 1]? = some (.cells (recCells 0 0 0 false (.slice none 0 0) (.slice none 0 0)) 38 (0, 0)) := by
            rw [hkw.block (B + 1) (lt_of_heap HZZ.out) (fun f => f)]; exact HZZ.out
          have hb6 : ∀ g, blockOf a6 = some g → W1.heap.size ≤ g := fun g hg => by
            rw [bk6] at hg
            rcases hfr with f | f
            · rw [f] at hg; cases hg
            · rw [f] at hg; injection hg with hg; have := HWA.out; simp at this; omega
          have hkB : Keep (fun x => x = B) w9 (w9.setCell ⟨B, 4, none⟩ (.slice a6 ps.length c6)) := (Keep.refl (fun x => x = B) w9).setCell (p := ⟨B, 4, none⟩) (fun _ => rfl) (.slice a6 ps.length c6)
          have hdis : ∀ g, blockOf a6 = some g → blockOf ao ≠ some g := fun g hg e => by
            rw [bk6] at hg
            rcases hfr with f | f
            · rw [f] at hg; cases hg
            · rw [f] at hg; injection hg with hg; have := HNEW.out g e; omega
          have hO2 : OwnI (w9.setCell ⟨B, 4, none⟩ (.slice a6 ps.length c6)) (.slice a6 ps.length c6) (ps.take 9) := hO.keep hkB (fun g hg e => by rw [← bk6] at hg; have := hb6 g hg; have := HBZ.out; omega)
          have hP2 : OwnP (w9.setCell ⟨B, 4, none⟩ (.slice a6 ps.length c6)) (.slice ao L cp) ((us.take 12).map cutP) := (HOP.out.keep hkw (fun _ _ f => f)).keep hkB (fun g hg e => by rw [← HBK.out] at hg; have := HNEW.out g hg; have := HBZ.out; omega)
          have OWN := Lib.hid (And.intro hO2 (And.intro hP2 hdis))
          have hrow2 := set1 hrow9 (j := 4) (.slice a6 ps.length c6)
          have hz2 : (w9.setCell ⟨B, 4, none⟩ (.slice a6 ps.length c6)).heap[B + 1]? = some (.cells (recCells 0 0 0 false (.slice none 0 0) (.slice none 0 0)) 38 (0, 0)) := by
            rw [hkB.block (B + 1) (lt_of_heap hz9) (by omega)]; exact hz9
          have hk10 : Keep NoF w (w9.setCell ⟨B, 4, none⟩ (.slice a6 ps.length c6)) := hk9.setCell (p := ⟨B, 4, none⟩) (fun h => by have := HBB.out; simp only at h; omega) _
          have fz9 := free_of_heap hrow9 4; have c49 := cell_of_heap hrow9 4
          have q0 := cell_of_heap hrow2 0; have q1 := cell_of_heap hrow2 1; have q2 := cell_of_heap hrow2 2; have q3 := cell_of_heap hrow2 3; have q4 := cell_of_heap hrow2 4; have q5 := cell_of_heap hrow2 5
          have z0 := cell_of_heap hz2 0; have z1 := cell_of_heap hz2 1; have z2 := cell_of_heap hz2 2; have z3 := cell_of_heap hz2 3; have z4 := cell_of_heap hz2 4; have z5 := cell_of_heap hz2 5
          have y0 := free_of_heap hz2 0; have y1 := free_of_heap hz2 1; have y2 := free_of_heap hz2 2; have y3 := free_of_heap hz2 3; have y4 := free_of_heap hz2 4; have y5 := free_of_heap hz2 5
          simp [recCells] at c49 q0 q1 q2 q3 q4 q5 z0 z1 z2 z3 z4 z5
          have FIN : Hid (SlI (w9.setCell ⟨B, 4, none⟩ (.slice a6 ps.length c6)) a6 c6 (ps.take 9) ∧ SlP (w9.setCell ⟨B, 4, none⟩ (.slice a6 ps.length c6)) ao cp ((us.take 12).map cutP) ∧ Keep NoF w (w9.setCell ⟨B, 4, none⟩ (.slice a6 ps.length c6)) ∧
              (∀ g, blockOf a6 = some g → W1.heap.size ≤ g) ∧ (w9.setCell ⟨B, 4, none⟩ (.slice a6 ps.length c6)).heap[B + 1]? = some (.cells (recCells 0 0 0 false (.slice none 0 0) (.slice none 0 0)) 38 (0, 0))) :=
            Lib.hid ⟨s6.keep hkB (fun g hg e => by have := hb6 g hg; have := HBZ.out; omega), (HSP.out.keep hkw (fun _ _ f => f)).keep hkB (fun g hg e => by have := HNEW.out g hg; have := HBZ.out; omega), hk10, hb6, hz2⟩
          have HTL := Lib.hid htl
          have HBK6 := Lib.hid bk6
          clear hown hgr hfr hO hdis hO2 hP2 bk6 s6 hk9 hkw hrow9 hz9 hb6 hkB hrow2 hz2 hk10 e7 htl
          go_wp2_with fail
          (try simp only [Exit.inBlock, Exit.then])
          have h6 := set6 FIN.out.2.2.2.2 (.int .i64 k) (.int .i64 t) (.int .i64 i) (.bool y) (.slice a6 ps.length c6) (.slice ao L cp)
          refine bodyPost_ret (results_rec1 rfl _ _ (B + 1) _ _ _ rfl h6.1 rfl) rfl ?_
          have hfin := FIN.out
          refine ⟨a6, c6, ao, cp, ?_, ⟨H.out.kind, H.out.tid, H.out.id, ?_, ?_⟩, ?_, fun g hg => ?_, fun g hg => ?_, ?_, ?_, OWN.out.2.2⟩
          · have e1 := HTL.out; have e2 := HLV.out; unfold recVal recCut; simp only [e1, e2]
          · exact hfin.1.keep h6.2 (fun g hg e => by have := hfin.2.2.2.1 g hg; have := HBZ.out; omega)
          · exact hfin.2.1.keep h6.2 (fun g hg e => by have := HNEW.out g hg; have := HBZ.out; omega)
          · exact hfin.2.2.1.trans h6.2 (fun _ _ f => f) (fun x hx e => by have := HBB.out; omega)
          · have := hfin.2.2.2.1 g hg; have := HBZ.out; have := HBB.out; have := K1.out.size; omega
          · have := HNEW.out g hg; have := HBZ.out; have := HBB.out; have := K1.out.size; omega
          · have e1 := HTL.out; unfold recCut; simp only; rw [e1]; exact OWN.out.1.keep h6.2 (fun g hg e => by rw [← HBK6.out] at hg; have := hfin.2.2.2.1 g hg; have := HBZ.out; omega)
          · have e2 := HLV.out; unfold recCut; simp only; rw [e2]; exact OWN.out.2.1.keep h6.2 (fun g hg e => by rw [← HBK.out] at hg; have := HNEW.out g hg; have := HBZ.out; omega)
      · rcases hlp with ⟨hp9, htl, hcc⟩ | ⟨hp9, htl, hcc⟩
        · rw [htl] at HSRC
          go_wp2_with (at_builtin; refine wpList_app 35 35 3 (.int .i64 0) 1 8 Try.underlying35 infoI64 rfl (by decide) (by decide) rfl rfl rfl rfl (World.ownsRow_nil _ _ _ _) HSRC.out (by omega) ?_)
          intro a6 c6 w9 hown hgr hfr
          have hO : OwnI w9 (.slice a6 9 c6) (ps.take 9) := by rw [OwnI, htl]; simpa using hown
          obtain ⟨a7, c7, e7, s6, bk6⟩ := hO.sl (fun n hn => H.out.parts.2.2.1 n (List.mem_of_mem_take hn))
          obtain ⟨rfl, -, rfl⟩ : a6 = a7 ∧ 9 = (ps.take 9).length ∧ c6 = c7 := by injection e7 with x y z; exact ⟨x, y, z⟩
          have hk9 := HKA.out.grown hgr (fun k _ e => by cases e)
          have hkw : Keep NoF (wr.setCell ⟨B, 5, none⟩ (.slice ao L cp)) w9 := (Keep.refl NoF _).grown hgr (fun k _ e => by cases e)
          have hrow9 : w9.heap[B]? = some (.cells (recCells k t i y (.slice a4 ps.length c4) (.slice ao L cp)) 38 (0, 0)) := by
            rw [hkw.block B (lt_of_heap HS1.out) (fun f => f)]; exact HS1.out
          have hz9 : w9.heap[B + 1]? = some (.cells (recCells 0 0 0 false (.slice none 0 0) (.slice none 0 0)) 38 (0, 0)) := by
            rw [hkw.block (B + 1) (lt_of_heap HZZ.out) (fun f => f)]; exact HZZ.out
          have hb6 : ∀ g, blockOf a6 = some g → W1.heap.size ≤ g := fun g hg => by
            rw [bk6] at hg
            rcases hfr with f | f
            · rw [f] at hg; cases hg
            · rw [f] at hg; injection hg with hg; have := HWA.out; simp at this; omega
          have hkB : Keep (fun x => x = B) w9 (w9.setCell ⟨B, 4, none⟩ (.slice a6 9 c6)) := (Keep.refl (fun x => x = B) w9).setCell (p := ⟨B, 4, none⟩) (fun _ => rfl) (.slice a6 9 c6)
          have hdis : ∀ g, blockOf a6 = some g → blockOf ao ≠ some g := fun g hg e => by
            rw [bk6] at hg
            rcases hfr with f | f
            · rw [f] at hg; cases hg
            · rw [f] at hg; injection hg with hg; have := HNEW.out g e; omega
          have hO2 : OwnI (w9.setCell ⟨B, 4, none⟩ (.slice a6 9 c6)) (.slice a6 9 c6) (ps.take 9) := hO.keep hkB (fun g hg e => by rw [← bk6] at hg; have := hb6 g hg; have := HBZ.out; omega)
          have hP2 : OwnP (w9.setCell ⟨B, 4, none⟩ (.slice a6 9 c6)) (.slice ao L cp) ((us.take 12).map cutP) := (HOP.out.keep hkw (fun _ _ f => f)).keep hkB (fun g hg e => by rw [← HBK.out] at hg; have := HNEW.out g hg; have := HBZ.out; omega)
          have OWN := Lib.hid (And.intro hO2 (And.intro hP2 hdis))
          have hrow2 := set1 hrow9 (j := 4) (.slice a6 9 c6)
          have hz2 : (w9.setCell ⟨B, 4, none⟩ (.slice a6 9 c6)).heap[B + 1]? = some (.cells (recCells 0 0 0 false (.slice none 0 0) (.slice none 0 0)) 38 (0, 0)) := by
            rw [hkB.block (B + 1) (lt_of_heap hz9) (by omega)]; exact hz9
          have hk10 : Keep NoF w (w9.setCell ⟨B, 4, none⟩ (.slice a6 9 c6)) := hk9.setCell (p := ⟨B, 4, none⟩) (fun h => by have := HBB.out; simp only at h; omega) _
          have fz9 := free_of_heap hrow9 4; have c49 := cell_of_heap hrow9 4
          have q0 := cell_of_heap hrow2 0; have q1 := cell_of_heap hrow2 1; have q2 := cell_of_heap hrow2 2; have q3 := cell_of_heap hrow2 3; have q4 := cell_of_heap hrow2 4; have q5 := cell_of_heap hrow2 5
          have z0 := cell_of_heap hz2 0; have z1 := cell_of_heap hz2 1; have z2 := cell_of_heap hz2 2; have z3 := cell_of_heap hz2 3; have z4 := cell_of_heap hz2 4; have z5 := cell_of_heap hz2 5
          have y0 := free_of_heap hz2 0; have y1 := free_of_heap hz2 1; have y2 := free_of_heap hz2 2; have y3 := free_of_heap hz2 3; have y4 := free_of_heap hz2 4; have y5 := free_of_heap hz2 5
          simp [recCells] at c49 q0 q1 q2 q3 q4 q5 z0 z1 z2 z3 z4 z5
          have FIN : Hid (SlI (w9.setCell ⟨B, 4, none⟩ (.slice a6 9 c6)) a6 c6 (ps.take 9) ∧ SlP (w9.setCell ⟨B, 4, none⟩ (.slice a6 9 c6)) ao cp ((us.take 12).map cutP) ∧ Keep NoF w (w9.setCell ⟨B, 4, none⟩ (.slice a6 9 c6)) ∧
              (∀ g, blockOf a6 = some g → W1.heap.size ≤ g) ∧ (w9.setCell ⟨B, 4, none⟩ (.slice a6 9 c6)).heap[B + 1]? = some (.cells (recCells 0 0 0 false (.slice none 0 0) (.slice none 0 0)) 38 (0, 0))) :=
            Lib.hid ⟨s6.keep hkB (fun g hg e => by have := hb6 g hg; have := HBZ.out; omega), (HSP.out.keep hkw (fun _ _ f => f)).keep hkB (fun g hg e => by have := HNEW.out g hg; have := HBZ.out; omega), hk10, hb6, hz2⟩
          have HTL := Lib.hid htl
          have HBK6 := Lib.hid bk6
          clear hown hgr hfr hO hdis hO2 hP2 bk6 s6 hk9 hkw hrow9 hz9 hb6 hkB hrow2 hz2 hk10 e7 htl
          go_wp2_with fail
          (try simp only [Exit.inBlock, Exit.then])
          have h6 := set6 FIN.out.2.2.2.2 (.int .i64 k) (.int .i64 t) (.int .i64 i) (.bool y) (.slice a6 9 c6) (.slice ao L cp)
          refine bodyPost_ret (results_rec1 rfl _ _ (B + 1) _ _ _ rfl h6.1 rfl) rfl ?_
          have hfin := FIN.out
          refine ⟨a6, c6, ao, cp, ?_, ⟨H.out.kind, H.out.tid, H.out.id, ?_, ?_⟩, ?_, fun g hg => ?_, fun g hg => ?_, ?_, ?_, OWN.out.2.2⟩
          · have e1 := HTL.out; have e2 := HLV.out; unfold recVal recCut; simp only [e1, e2]
          · exact hfin.1.keep h6.2 (fun g hg e => by have := hfin.2.2.2.1 g hg; have := HBZ.out; omega)
          · exact hfin.2.1.keep h6.2 (fun g hg e => by have := HNEW.out g hg; have := HBZ.out; omega)
          · exact hfin.2.2.1.trans h6.2 (fun _ _ f => f) (fun x hx e => by have := HBB.out; omega)
          · have := hfin.2.2.2.1 g hg; have := HBZ.out; have := HBB.out; have := K1.out.size; omega
          · have := HNEW.out g hg; have := HBZ.out; have := HBB.out; have := K1.out.size; omega
          · have e1 := HTL.out; unfold recCut; simp only; rw [e1]; exact OWN.out.1.keep h6.2 (fun g hg e => by rw [← HBK6.out] at hg; have := hfin.2.2.2.1 g hg; have := HBZ.out; omega)
          · have e2 := HLV.out; unfold recCut; simp only; rw [e2]; exact OWN.out.2.1.keep h6.2 (fun g hg e => by rw [← HBK.out] at hg; have := HNEW.out g hg; have := HBZ.out; omega)
        · rw [htl] at HSRC
          go_wp2_with (at_builtin; refine wpList_app 35 35 3 (.int .i64 0) 1 8 Try.underlying35 infoI64 rfl (by decide) (by decide) rfl rfl rfl rfl (World.ownsRow_nil _ _ _ _) HSRC.out (by omega) ?_)
          intro a6 c6 w9 hown hgr hfr
          have hO : OwnI w9 (.slice a6 ps.length c6) (ps.take 9) := by rw [OwnI, htl]; simpa using hown
          obtain ⟨a7, c7, e7, s6, bk6⟩ := hO.sl (fun n hn => H.out.parts.2.2.1 n (List.mem_of_mem_take hn))
          obtain ⟨rfl, -, rfl⟩ : a6 = a7 ∧ ps.length = (ps.take 9).length ∧ c6 = c7 := by injection e7 with x y z; exact ⟨x, y, z⟩
          have hk9 := HKA.out.grown hgr (fun k _ e => by cases e)
          have hkw : Keep NoF (wr.setCell ⟨B, 5, none⟩ (.slice ao L cp)) w9 := (Keep.refl NoF _).grown hgr (fun k _ e => by cases e)
          have hrow9 : w9.heap[B]? = some (.cells (recCells k t i y (.slice a4 ps.length c4) (.slice ao L cp)) 38 (0, 0)) := by
            rw [hkw.block B (lt_of_heap HS1.out) (fun f => f)]; exact HS1.out
          have hz9 : w9.heap[B + 1]? = some (.cells (recCells 0 0 0 false (.slice none 0 0) (.slice none 0 0)) 38 (0, 0)) := by
            rw [hkw.block (B + 1) (lt_of_heap HZZ.out) (fun f => f)]; exact HZZ.out
          have hb6 : ∀ g, blockOf a6 = some g → W1.heap.size ≤ g := fun g hg => by
            rw [bk6] at hg
            rcases hfr with f | f
            · rw [f] at hg; cases hg
            · rw [f] at hg; injection hg with hg; have := HWA.out; simp at this; omega
          have hkB : Keep (fun x => x = B) w9 (w9.setCell ⟨B, 4, none⟩ (.slice a6 ps.length c6)) := (Keep.refl (fun x => x = B) w9).setCell (p := ⟨B, 4, none⟩) (fun _ => rfl) (.slice a6 ps.length c6)
          have hdis : ∀ g, blockOf a6 = some g → blockOf ao ≠ some g := fun g hg e => by
            rw [bk6] at hg
            rcases hfr with f | f
            · rw [f] at hg; cases hg
            · rw [f] at hg; injection hg with hg; have := HNEW.out g e; omega
          have hO2 : OwnI (w9.setCell ⟨B, 4, none⟩ (.slice a6 ps.length c6)) (.slice a6 ps.length c6) (ps.take 9) := hO.keep hkB (fun g hg e => by rw [← bk6] at hg; have := hb6 g hg; have := HBZ.out; omega)
          have hP2 : OwnP (w9.setCell ⟨B, 4, none⟩ (.slice a6 ps.length c6)) (.slice ao L cp) ((us.take 12).map cutP) := (HOP.out.keep hkw (fun _ _ f => f)).keep hkB (fun g hg e => by rw [← HBK.out] at hg; have := HNEW.out g hg; have := HBZ.out; omega)
          have OWN := Lib.hid (And.intro hO2 (And.intro hP2 hdis))
          have hrow2 := set1 hrow9 (j := 4) (.slice a6 ps.length c6)
          have hz2 : (w9.setCell ⟨B, 4, none⟩ (.slice a6 ps.length c6)).heap[B + 1]? = some (.cells (recCells 0 0 0 false (.slice none 0 0) (.slice none 0 0)) 38 (0, 0)) := by
            rw [hkB.block (B + 1) (lt_of_heap hz9) (by omega)]; exact hz9
          have hk10 : Keep NoF w (w9.setCell ⟨B, 4, none⟩ (.slice a6 ps.length c6)) := hk9.setCell (p := ⟨B, 4, none⟩) (fun h => by have := HBB.out; simp only at h; omega) _
          have fz9 := free_of_heap hrow9 4; have c49 := cell_of_heap hrow9 4
          have q0 := cell_of_heap hrow2 0; have q1 := cell_of_heap hrow2 1; have q2 := cell_of_heap hrow2 2; have q3 := cell_of_heap hrow2 3; have q4 := cell_of_heap hrow2 4; have q5 := cell_of_heap hrow2 5
          have z0 := cell_of_heap hz2 0; have z1 := cell_of_heap hz2 1; have z2 := cell_of_heap hz2 2; have z3 := cell_of_heap hz2 3; have z4 := cell_of_heap hz2 4; have z5 := cell_of_heap hz2 5
          have y0 := free_of_heap hz2 0; have y1 := free_of_heap hz2 1; have y2 := free_of_heap hz2 2; have y3 := free_of_heap hz2 3; have y4 := free_of_heap hz2 4; have y5 := free_of_heap hz2 5
          simp [recCells] at c49 q0 q1 q2 q3 q4 q5 z0 z1 z2 z3 z4 z5
          have FIN : Hid (SlI (w9.setCell ⟨B, 4, none⟩ (.slice a6 ps.length c6)) a6 c6 (ps.take 9) ∧ SlP (w9.setCell ⟨B, 4, none⟩ (.slice a6 ps.length c6)) ao cp ((us.take 12).map cutP) ∧ Keep NoF w (w9.setCell ⟨B, 4, none⟩ (.slice a6 ps.length c6)) ∧
              (∀ g, blockOf a6 = some g → W1.heap.size ≤ g) ∧ (w9.setCell ⟨B, 4, none⟩ (.slice a6 ps.length c6)).heap[B + 1]? = some (.cells (recCells 0 0 0 false (.slice none 0 0) (.slice none 0 0)) 38 (0, 0))) :=
            Lib.hid ⟨s6.keep hkB (fun g hg e => by have := hb6 g hg; have := HBZ.out; omega), (HSP.out.keep hkw (fun _ _ f => f)).keep hkB (fun g hg e => by have := HNEW.out g hg; have := HBZ.out; omega), hk10, hb6, hz2⟩
          have HTL := Lib.hid htl
          have HBK6 := Lib.hid bk6
          clear hown hgr hfr hO hdis hO2 hP2 bk6 s6 hk9 hkw hrow9 hz9 hb6 hkB hrow2 hz2 hk10 e7 htl
          go_wp2_with fail
          (try simp only [Exit.inBlock, Exit.then])
          have h6 := set6 FIN.out.2.2.2.2 (.int .i64 k) (.int .i64 t) (.int .i64 i) (.bool y) (.slice a6 ps.length c6) (.slice ao L cp)
          refine bodyPost_ret (results_rec1 rfl _ _ (B + 1) _ _ _ rfl h6.1 rfl) rfl ?_
          have hfin := FIN.out
          refine ⟨a6, c6, ao, cp, ?_, ⟨H.out.kind, H.out.tid, H.out.id, ?_, ?_⟩, ?_, fun g hg => ?_, fun g hg => ?_, ?_, ?_, OWN.out.2.2⟩
          · have e1 := HTL.out; have e2 := HLV.out; unfold recVal recCut; simp only [e1, e2]
          · exact hfin.1.keep h6.2 (fun g hg e => by have := hfin.2.2.2.1 g hg; have := HBZ.out; omega)
          · exact hfin.2.1.keep h6.2 (fun g hg e => by have := HNEW.out g hg; have := HBZ.out; omega)
          · exact hfin.2.2.1.trans h6.2 (fun _ _ f => f) (fun x hx e => by have := HBB.out; omega)
          · have := hfin.2.2.2.1 g hg; have := HBZ.out; have := HBB.out; have := K1.out.size; omega
          · have := HNEW.out g hg; have := HBZ.out; have := HBB.out; have := K1.out.size; omega
          · have e1 := HTL.out; unfold recCut; simp only; rw [e1]; exact OWN.out.1.keep h6.2 (fun g hg e => by rw [← HBK6.out] at hg; have := hfin.2.2.2.1 g hg; have := HBZ.out; omega)
          · have e2 := HLV.out; unfold recCut; simp only; rw [e2]; exact OWN.out.2.1.keep h6.2 (fun g hg e => by rw [← HBK.out] at hg; have := HNEW.out g hg; have := HBZ.out; omega)
end Go.Proofs.Ytgbogbjifpijkaa
