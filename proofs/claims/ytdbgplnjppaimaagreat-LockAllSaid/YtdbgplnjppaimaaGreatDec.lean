/- rec's reader: a record out of bytes. -/
import Derived.Test.YtdbgplnjppaimaaGreatRecMay
import Derived.Test.YtdbgplnjppaimaaGreatEnc
import Derived.Laws.ResultCell
import Derived.Laws.Rows
open Go Go.RowKit
namespace Go.Proofs.YtdbgplnjppaimaaGreat

/-! ### rows of the call's own: whole numbers; puts -/
theorem infoI64 : (Tryz.prog.info? 3).map (fun i => (i.zero, i.size, i.bytes)) = some (some (.int .i64 0), 1, 8) := by kernel_rfl
theorem infoPut : (Tryz.prog.info? 28).map (fun i => (i.zero, i.size, i.bytes)) = some (some (.agg #[.string ByteArray.empty, .string ByteArray.empty]), 2, 32) := by kernel_rfl
def ivs (l : List Int) : List Value := l.map (.int .i64)
def pvs (l : List PutV) : List Value := l.flatMap fun p => [.string p.q, .string p.b]
theorem pvs_length (l : List PutV) : (pvs l).length = l.length * 2 := by
  induction l with
  | nil => rfl
  | cons p l ih => simp only [pvs, List.flatMap_cons, List.length_append, List.length_cons, List.length_nil] at ih ⊢; omega
theorem pvs_get (l : List PutV) (i : Nat) (h : i < l.length) : (pvs l)[i * 2]? = some (.string l[i].q) ∧ (pvs l)[i * 2 + 1]? = some (.string l[i].b) := by
  induction l generalizing i with
  | nil => simp at h
  | cons p l ih =>
    cases i with
    | zero => exact ⟨rfl, rfl⟩
    | succ j =>
      obtain ⟨h1, h2⟩ := ih j (by simpa using h)
      have e1 : (j + 1) * 2 = j * 2 + 1 + 1 := by omega
      rw [e1]
      exact ⟨h1, h2⟩
def OwnI (w : World) (v : Value) (l : List Int) : Prop := w.ownsRow 0 3 1 v l.length (ivs l)
def OwnP (w : World) (v : Value) (l : List PutV) : Prop := w.ownsRow 0 28 2 v l.length (pvs l)
theorem OwnI.nil (w : World) : OwnI w (.slice none 0 0) [] := World.ownsRow_nil _ _ _ _
theorem OwnP.nil (w : World) : OwnP w (.slice none 0 0) [] := World.ownsRow_nil _ _ _ _
theorem OwnI.sl {w : World} {v : Value} {l : List Int} (hown : OwnI w v l) (hl : ∀ n ∈ l, InI64 n) : ∃ ao cp, v = .slice ao l.length cp ∧ SlI w ao cp l ∧ blockOf ao = v.ownBlock := by
  rcases hown.2 with ⟨rfl, h0⟩ | ⟨g, cap, cur, rfl, _, hg, hnc, hcm, hcs, htake⟩
  · have hl : l = [] := List.eq_nil_of_length_eq_zero h0
    subst hl
    exact ⟨none, 0, rfl, SlI.nil w, rfl⟩
  · refine ⟨some ⟨g, 0, none⟩, cap, rfl, ⟨hnc, hcm, hl, fun i hi => ⟨g, 0, rfl, ?_⟩⟩, rfl⟩
    rw [cell_of_heap hg, Nat.zero_add]
    have h1 : (cur.toList.take (l.length * 1))[i]? = (ivs l)[i]? := by rw [htake]
    rw [List.getElem?_take_of_lt (by omega)] at h1
    rw [← Array.getElem?_toList, h1]
    simp [ivs, List.getElem?_eq_getElem hi]
theorem OwnP.sl {w : World} {v : Value} {l : List PutV} (hown : OwnP w v l) (hl : ∀ p ∈ l, p.q.size ≤ maxLen ∧ p.b.size ≤ maxLen) : ∃ ao cp, v = .slice ao l.length cp ∧ SlP w ao cp l ∧ blockOf ao = v.ownBlock := by
  rcases hown.2 with ⟨rfl, h0⟩ | ⟨g, cap, cur, rfl, _, hg, hnc, hcm, hcs, htake⟩
  · have hl : l = [] := List.eq_nil_of_length_eq_zero h0
    subst hl
    exact ⟨none, 0, rfl, SlP.nil w, rfl⟩
  · refine ⟨some ⟨g, 0, none⟩, cap, rfl, ⟨hnc, hcm, hl, fun i hi => ⟨g, 0, rfl, ?_, ?_⟩⟩, rfl⟩
    · rw [cell_of_heap hg, Nat.zero_add]
      have h1 : (cur.toList.take (l.length * 2))[i * 2]? = (pvs l)[i * 2]? := by rw [htake]
      rw [List.getElem?_take_of_lt (by omega)] at h1
      rw [← Array.getElem?_toList, h1, (pvs_get l i hi).1]
    · rw [cell_of_heap hg, Nat.zero_add]
      have h1 : (cur.toList.take (l.length * 2))[i * 2 + 1]? = (pvs l)[i * 2 + 1]? := by rw [htake]
      rw [List.getElem?_take_of_lt (by omega)] at h1
      rw [← Array.getElem?_toList, h1, (pvs_get l i hi).2]
theorem OwnI.keep {F : Nat → Prop} {w w' : World} {v : Value} {l : List Int} (h : OwnI w v l) (hk : Keep F w w') (hn : ∀ k, v.ownBlock = some k → ¬ F k) : OwnI w' v l := by
  refine ⟨h.1, ?_⟩
  rcases h.2 with h0 | ⟨g, cap, cur, rfl, hb, hg, rest⟩
  · exact .inl h0
  · refine .inr ⟨g, cap, cur, rfl, hb, ?_, rest⟩
    rw [hk.block g (lt_of_heap hg) (hn g rfl)]; exact hg
theorem OwnP.keep {F : Nat → Prop} {w w' : World} {v : Value} {l : List PutV} (h : OwnP w v l) (hk : Keep F w w') (hn : ∀ k, v.ownBlock = some k → ¬ F k) : OwnP w' v l := by
  refine ⟨h.1, ?_⟩
  rcases h.2 with h0 | ⟨g, cap, cur, rfl, hb, hg, rest⟩
  · exact .inl h0
  · refine .inr ⟨g, cap, cur, rfl, hb, ?_, rest⟩
    rw [hk.block g (lt_of_heap hg) (hn g rfl)]; exact hg
theorem OwnI.lt {w : World} {v : Value} {l : List Int} (h : OwnI w v l) : ∀ k, v.ownBlock = some k → k < w.heap.size := fun k hk => (World.ownsRow.lt h k hk).2
theorem OwnP.lt {w : World} {v : Value} {l : List PutV} (h : OwnP w v l) : ∀ k, v.ownBlock = some k → k < w.heap.size := fun k hk => (World.ownsRow.lt h k hk).2

theorem Src.two {P : Program} {t e : TypeId} (ht : P.underlying t = some (.slice e)) {w : World} {b : Nat} {q s : ByteArray} {T : TypeId} {fz : Nat × Nat} (hb : w.heap[b]? = some (.cells #[.string q, .string s] T fz)) (c : Nat) :
    Src P 2 t (.slice (some ⟨b, 0, none⟩) 1 c) 1 [.string q, .string s] w :=
  Src.ofSlice w ht _ _ _ _ rfl (World.news_of_block hb) (by intro u hu; simp at hu; rcases hu with rfl | rfl <;> rfl)

/-! ### reading on and on -/
theorem readInts_snoc (j : Nat) : ∀ (st : Option (List UInt8)) (l : List UInt8), (readInts j st).2 = some l →
    readInts (j + 1) st = ((readInts j st).1 ++ [((rdN 2 (some l) : Nat) : Int)], rdS 2 (some l)) := by
  induction j with
  | zero => intro st l h; simp only [readInts] at h; subst h; rfl
  | succ j ih =>
    intro st l h
    cases st with
    | none => simp [readInts] at h
    | some m =>
      have h2 : (readInts j (rdS 2 (some m))).2 = some l := h
      have := ih (rdS 2 (some m)) l h2
      rw [readInts, this, readInts]
      rfl
theorem readInts_stop (j m : Nat) : ∀ (st : Option (List UInt8)), (readInts j st).2 = none → j ≤ m → readInts m st = readInts j st := by
  induction j generalizing m with
  | zero => intro st h _; simp only [readInts] at h; subst h; cases m <;> rfl
  | succ j ih =>
    intro st h hm
    obtain ⟨n, rfl⟩ : ∃ n, m = n + 1 := ⟨m - 1, by omega⟩
    cases st with
    | none => rfl
    | some l =>
      have := ih n (rdS 2 (some l)) h (by omega)
      rw [readInts, this, readInts]
theorem readInts_len (j : Nat) : ∀ st, (readInts j st).1.length ≤ j := by
  induction j with
  | zero => intro st; exact Nat.le_refl _
  | succ j ih =>
    intro st
    cases st with
    | none => exact Nat.zero_le _
    | some l => simp only [readInts, List.length_cons]; have := ih (rdS 2 (some l)); omega
theorem readInts_mem (j : Nat) : ∀ st, ∀ n ∈ (readInts j st).1, InI64 n := by
  induction j with
  | zero => intro st n h; cases h
  | succ j ih =>
    intro st n h
    cases st with
    | none => cases h
    | some l =>
      simp only [readInts, List.mem_cons] at h
      rcases h with rfl | h
      · have := rdN_lt 2 (some l); unfold InI64; omega
      · exact ih _ n h
theorem readPuts_snoc (j : Nat) : ∀ (st : Option (List UInt8)) (l : List UInt8), (readPuts j st).2 = some l →
    readPuts (j + 1) st = ((readPuts j st).1 ++ [⟨bstr (rdT (some l)), bstr (rdT (rdTs (some l)))⟩], rdTs (rdTs (some l))) := by
  induction j with
  | zero => intro st l h; simp only [readPuts] at h; subst h; rfl
  | succ j ih =>
    intro st l h
    cases st with
    | none => simp [readPuts] at h
    | some m =>
      have h2 : (readPuts j (rdTs (rdTs (some m)))).2 = some l := h
      have := ih _ l h2
      rw [readPuts, this, readPuts]
      rfl
theorem readPuts_stop (j m : Nat) : ∀ (st : Option (List UInt8)), (readPuts j st).2 = none → j ≤ m → readPuts m st = readPuts j st := by
  induction j generalizing m with
  | zero => intro st h _; simp only [readPuts] at h; subst h; cases m <;> rfl
  | succ j ih =>
    intro st h hm
    obtain ⟨n, rfl⟩ : ∃ n, m = n + 1 := ⟨m - 1, by omega⟩
    cases st with
    | none => rfl
    | some l =>
      have := ih n _ h (by omega)
      rw [readPuts, this, readPuts]
theorem readPuts_len (j : Nat) : ∀ st, (readPuts j st).1.length ≤ j := by
  induction j with
  | zero => intro st; exact Nat.le_refl _
  | succ j ih =>
    intro st
    cases st with
    | none => exact Nat.zero_le _
    | some l => simp only [readPuts, List.length_cons]; have := ih (rdTs (rdTs (some l))); omega
theorem rdT_len (st : Option (List UInt8)) : (rdT st).length ≤ 65535 := by
  unfold rdT
  have := rdN_lt 2 st
  split
  · split
    · rw [List.length_take]; omega
    · simp
  · simp
theorem bstr_sz (l : List UInt8) : (bstr l).size = l.length := by simp [bstr, ByteArray.size]
theorem readPuts_mem (j : Nat) : ∀ st, ∀ p ∈ (readPuts j st).1, p.q.size ≤ maxLen ∧ p.b.size ≤ maxLen := by
  induction j with
  | zero => intro st n h; cases h
  | succ j ih =>
    intro st n h
    cases st with
    | none => cases h
    | some l =>
      simp only [readPuts, List.mem_cons] at h
      rcases h with rfl | h
      · have h1 := rdT_len (some l); have h2 := rdT_len (rdTs (some l))
        simp only [bstr_sz]; unfold maxLen; omega
      · exact ih _ n h

/-! ### the block of a record -/
def recCells (k t i : Int) (y : Bool) (v4 v5 : Value) : Array Value := #[.int .i64 k, .int .i64 t, .int .i64 i, .bool y, v4, v5]
theorem results_rec {fn : Func} {p u : Tmp} (h : fn.results = #[.cell p 95, .tmp u]) (tmps : Array Value) (w : World) (Z : Nat) (cs : Array Value) (T : TypeId) (fr : Nat × Nat)
    (hp : tmps.getD p undef = .pointer (some ⟨Z, 0, none⟩)) (hg : w.heap[Z]? = some (.cells cs T fr)) (hs : cs.size = 6) :
    (results fn tmps).run Tryz.prog w = .ok (.tuple #[.agg cs, tmps.getD u undef]) w := by
  rw [results_cell_tmp h, hp]
  have hi : (Tryz.prog.info? 95).map (·.size) = some cs.size := by rw [hs]; kernel_rfl
  have hl := run_loadVar_row (P := Tryz.prog) w Z T 95 cs fr _ hg Tryz.underlying95 rfl hi
  simp [asAddr, Result.andThen, hl]

/-- A reader at P, a record at R, the result's block Z. -/
structure DecI (w wr : World) (Z P R : Nat) (g : Option Nat) (st : Option (List UInt8)) (k t i : Int) (y : Bool) (v4 v5 : Value) (ps : List Int) (us : List PutV) : Prop where
  rd : InR wr P g st
  row : wr.heap[R]? = some (.cells (recCells k t i y v4 v5) 95 (0, 0))
  res : wr.heap[Z]? = some (.cells (recCells 0 0 0 false (.slice none 0 0) (.slice none 0 0)) 95 (0, 0))
  own4 : OwnI wr v4 ps
  own5 : OwnP wr v5 us
  keep : Keep NoF w wr
  zn : w.heap.size ≤ Z
  zp : Z < P
  pr : P < R
  gz : ∀ j, g = some j → j < Z
  n4 : ∀ j, v4.ownBlock = some j → R < j
  n5 : ∀ j, v5.ownBlock = some j → R < j
theorem DecI.step {w wr w2 : World} {Z P R : Nat} {g : Option Nat} {st st2 : Option (List UInt8)} {k t i : Int} {y : Bool} {v4 v5 : Value} {ps : List Int} {us : List PutV}
    (h : DecI w wr Z P R g st k t i y v4 v5 ps us) (hs : InS wr P g st2 w2) : DecI w w2 Z P R g st2 k t i y v4 v5 ps us := by
  obtain ⟨h1, hk⟩ := hs
  have hzp := h.zp
  have hpr := h.pr
  refine ⟨h1, ?_, ?_, h.own4.keep hk (fun j hj e => ?_), h.own5.keep hk (fun j hj e => ?_), h.keep.trans hk (fun _ _ f => f) (fun j hj e => ?_), h.zn, h.zp, h.pr, h.gz, h.n4, h.n5⟩
  · rw [hk.block R (lt_of_heap h.row) (by omega)]; exact h.row
  · rw [hk.block Z (lt_of_heap h.res) (by omega)]; exact h.res
  · have := h.n4 j hj; omega
  · have := h.n5 j hj; omega
  · have := h.zn; omega
theorem DecI.still {w wr w2 : World} {Z P R : Nat} {g : Option Nat} {st : Option (List UInt8)} {k t i : Int} {y : Bool} {v4 v5 : Value} {ps : List Int} {us : List PutV}
    (h : DecI w wr Z P R g st k t i y v4 v5 ps us) (hk : Keep NoF wr w2) : DecI w w2 Z P R g st k t i y v4 v5 ps us :=
  ⟨h.rd.keep hk (fun f => f) (fun _ _ f => f), by rw [hk.block R (lt_of_heap h.row) (fun f => f)]; exact h.row, by rw [hk.block Z (lt_of_heap h.res) (fun f => f)]; exact h.res, h.own4.keep hk (fun _ _ f => f), h.own5.keep hk (fun _ _ f => f),
    h.keep.trans' hk, h.zn, h.zp, h.pr, h.gz, h.n4, h.n5⟩
/-- A store into the record. -/
theorem DecI.setId {w wr : World} {Z P R : Nat} {g : Option Nat} {st : Option (List UInt8)} {k t i : Int} {y : Bool} {v4 v5 : Value} {ps : List Int} {us : List PutV}
    (h : DecI w wr Z P R g st k t i y v4 v5 ps us) (i2 : Int) : DecI w (wr.setCell ⟨R, 2, none⟩ (.int .i64 i2)) Z P R g st k t i2 y v4 v5 ps us := by
  have hk : Keep (· = R) wr (wr.setCell ⟨R, 2, none⟩ (.int .i64 i2)) := (Keep.refl (fun x => x = R) wr).setCell (p := ⟨R, 2, none⟩) (fun _ => rfl) _
  have hzp := h.zp
  have hpr := h.pr
  refine ⟨h.rd.keep hk (by omega) (fun j hj e => ?_), ?_, ?_, h.own4.keep hk (fun j hj e => ?_), h.own5.keep hk (fun j hj e => ?_), h.keep.trans hk (fun _ _ f => f) (fun j hj e => ?_), h.zn, h.zp, h.pr, h.gz, h.n4, h.n5⟩
  · have := h.gz j hj; omega
  · simp [World.setCell, Array.getElem?_modify, h.row, recCells]
  · rw [hk.block Z (lt_of_heap h.res) (by omega)]; exact h.res
  · have := h.n4 j hj; omega
  · have := h.n5 j hj; omega
  · have := h.zn; omega
theorem DecI.setYes {w wr : World} {Z P R : Nat} {g : Option Nat} {st : Option (List UInt8)} {k t i : Int} {y : Bool} {v4 v5 : Value} {ps : List Int} {us : List PutV}
    (h : DecI w wr Z P R g st k t i y v4 v5 ps us) (y2 : Bool) : DecI w (wr.setCell ⟨R, 3, none⟩ (.bool y2)) Z P R g st k t i y2 v4 v5 ps us := by
  have hk : Keep (· = R) wr (wr.setCell ⟨R, 3, none⟩ (.bool y2)) := (Keep.refl (fun x => x = R) wr).setCell (p := ⟨R, 3, none⟩) (fun _ => rfl) _
  have hzp := h.zp
  have hpr := h.pr
  refine ⟨h.rd.keep hk (by omega) (fun j hj e => ?_), ?_, ?_, h.own4.keep hk (fun j hj e => ?_), h.own5.keep hk (fun j hj e => ?_), h.keep.trans hk (fun _ _ f => f) (fun j hj e => ?_), h.zn, h.zp, h.pr, h.gz, h.n4, h.n5⟩
  · have := h.gz j hj; omega
  · simp [World.setCell, Array.getElem?_modify, h.row, recCells]
  · rw [hk.block Z (lt_of_heap h.res) (by omega)]; exact h.res
  · have := h.n4 j hj; omega
  · have := h.n5 j hj; omega
  · have := h.zn; omega
/-- Behind an append to the numbers (puts) and the store of the new row: wa: where the element lies already. -/
theorem DecI.addInt {w wr wa w1 : World} {Z P R : Nat} {g : Option Nat} {st : Option (List UInt8)} {k t i : Int} {y : Bool} {v4 v5 v : Value} {ps ps2 : List Int} {us : List PutV}
    (h : DecI w wr Z P R g st k t i y v4 v5 ps us) (hk : Keep NoF wr wa) (hgr : wa.grownBy w1 v4.ownBlock) (hown : OwnI w1 v ps2) (hf : v.ownBlock = v4.ownBlock ∨ v.ownBlock = some wa.heap.size) (h5 : v5.ownBlock = none) :
    DecI w (w1.setCell ⟨R, 4, none⟩ v) Z P R g st k t i y v v5 ps2 us := by
  have hzp := h.zp
  have hpr := h.pr
  have hR := lt_of_heap h.row
  have h4 := h.own4.lt
  have ka : Keep (fun j => v4.ownBlock = some j) wr w1 := (hk.mono (fun _ _ f => f.elim)).grown hgr (fun j _ e => e)
  have kb : Keep (fun j => v4.ownBlock = some j ∨ j = R) wr (w1.setCell ⟨R, 4, none⟩ v) := (ka.mono (fun _ _ f => .inl f)).setCell (p := ⟨R, 4, none⟩) (fun _ => .inr rfl) _
  have hn : ∀ j, v.ownBlock = some j → R < j := by
    intro j hj
    rcases hf with f | f <;> rw [f] at hj
    · exact h.n4 j hj
    · injection hj with hj; have := hk.size; omega
  refine ⟨h.rd.keep kb ?_ (fun j hj e => ?_), ?_, ?_, ?_, h.own5.keep kb (fun j hj e => ?_), h.keep.trans kb (fun _ _ f => f) (fun j hj e => ?_), h.zn, h.zp, h.pr, h.gz, hn, h.n5⟩
  · rintro (e | e)
    · have := h.n4 P e; omega
    · omega
  · have := h.gz j hj
    rcases e with e | e
    · have := h.n4 j e; omega
    · omega
  · have e : w1.heap[R]? = some (.cells (recCells k t i y v4 v5) 95 (0, 0)) := by rw [ka.block R hR (fun e => by have := h.n4 R e; omega)]; exact h.row
    simp [World.setCell, Array.getElem?_modify, e, recCells]
  · rw [kb.block Z (lt_of_heap h.res) (fun e => by rcases e with e | e; (have := h.n4 Z e; omega); omega)]; exact h.res
  · exact hown.keep (F := (· = R)) ((Keep.refl (fun x => x = R) _).setCell (p := ⟨R, 4, none⟩) (fun _ => rfl) v) (fun j hj e => by have := hn j hj; omega)
  · rw [h5] at hj; cases hj
  · have := h.zn
    rcases e with e | e
    · have := h.n4 j e; omega
    · omega
theorem DecI.addPut {w wr wa w1 : World} {Z P R : Nat} {g : Option Nat} {st : Option (List UInt8)} {k t i : Int} {y : Bool} {v4 v5 v : Value} {ps : List Int} {us us2 : List PutV}
    (h : DecI w wr Z P R g st k t i y v4 v5 ps us) (hk : Keep NoF wr wa) (hgr : wa.grownBy w1 v5.ownBlock) (hown : OwnP w1 v us2) (hf : v.ownBlock = v5.ownBlock ∨ v.ownBlock = some wa.heap.size) (h4 : v4.ownBlock = none) :
    DecI w (w1.setCell ⟨R, 5, none⟩ v) Z P R g st k t i y v4 v ps us2 := by
  have hzp := h.zp
  have hpr := h.pr
  have hR := lt_of_heap h.row
  have ka : Keep (fun j => v5.ownBlock = some j) wr w1 := (hk.mono (fun _ _ f => f.elim)).grown hgr (fun j _ e => e)
  have kb : Keep (fun j => v5.ownBlock = some j ∨ j = R) wr (w1.setCell ⟨R, 5, none⟩ v) := (ka.mono (fun _ _ f => .inl f)).setCell (p := ⟨R, 5, none⟩) (fun _ => .inr rfl) _
  have hn : ∀ j, v.ownBlock = some j → R < j := by
    intro j hj
    rcases hf with f | f <;> rw [f] at hj
    · exact h.n5 j hj
    · injection hj with hj; have := hk.size; omega
  refine ⟨h.rd.keep kb ?_ (fun j hj e => ?_), ?_, ?_, h.own4.keep kb (fun j hj e => ?_), ?_, h.keep.trans kb (fun _ _ f => f) (fun j hj e => ?_), h.zn, h.zp, h.pr, h.gz, h.n4, hn⟩
  · rintro (e | e)
    · have := h.n5 P e; omega
    · omega
  · have := h.gz j hj
    rcases e with e | e
    · have := h.n5 j e; omega
    · omega
  · have e : w1.heap[R]? = some (.cells (recCells k t i y v4 v5) 95 (0, 0)) := by rw [ka.block R hR (fun e => by have := h.n5 R e; omega)]; exact h.row
    simp [World.setCell, Array.getElem?_modify, e, recCells]
  · rw [kb.block Z (lt_of_heap h.res) (fun e => by rcases e with e | e; (have := h.n5 Z e; omega); omega)]; exact h.res
  · rw [h4] at hj; cases hj
  · exact hown.keep (F := (· = R)) ((Keep.refl (fun x => x = R) _).setCell (p := ⟨R, 5, none⟩) (fun _ => rfl) v) (fun j hj e => by have := hn j hj; omega)
  · have := h.zn
    rcases e with e | e
    · have := h.n5 j e; omega
    · omega

theorem wrap_in (n : Int) : InI64 (wrap64 n) := by unfold InI64 wrap64; omega
theorem keptR {w wr wa w1 : World} {Z P R : Nat} {g : Option Nat} {st : Option (List UInt8)} {k t i : Int} {y : Bool} {v4 v5 : Value} {ps : List Int} {us : List PutV}
    (h : DecI w wr Z P R g st k t i y v4 v5 ps us) (hk : Keep NoF wr wa) (hgr : wa.grownBy w1 v4.ownBlock) : w1.heap[R]? = some (.cells (recCells k t i y v4 v5) 95 (0, 0)) := by
  have hR := lt_of_heap h.row
  rw [hgr.block R (Nat.lt_of_lt_of_le hR hk.size) (fun e => by have := h.n4 R e.symm; omega), hk.block R hR (fun f => f)]; exact h.row
theorem keptR5 {w wr wa w1 : World} {Z P R : Nat} {g : Option Nat} {st : Option (List UInt8)} {k t i : Int} {y : Bool} {v4 v5 : Value} {ps : List Int} {us : List PutV}
    (h : DecI w wr Z P R g st k t i y v4 v5 ps us) (hk : Keep NoF wr wa) (hgr : wa.grownBy w1 v5.ownBlock) : w1.heap[R]? = some (.cells (recCells k t i y v4 v5) 95 (0, 0)) := by
  have hR := lt_of_heap h.row
  rw [hgr.block R (Nat.lt_of_lt_of_le hR hk.size) (fun e => by have := h.n5 R e.symm; omega), hk.block R hR (fun f => f)]; exact h.row
theorem zero_in : InI64 0 := by unfold InI64; omega
theorem kindR_in2 {n : Int} (h : InI64 n) : InI64 n := h
theorem kindR_in (l : List UInt8) : InI64 (kindR l) := by have := rdN_lt 2 (some l); unfold kindR InI64; omega

theorem set1 {w : World} {Z j : Nat} {T : TypeId} {cs : Array Value} {fz : Nat × Nat} (h : w.heap[Z]? = some (.cells cs T fz)) (v : Value) : (w.setCell ⟨Z, j, none⟩ v).heap[Z]? = some (.cells (cs.setIfInBounds j v) T fz) := by
  simp [World.setCell, Array.getElem?_modify, h]
theorem set6 {w : World} {Z : Nat} {T : TypeId} {o0 o1 o2 o3 o4 o5 : Value} (h : w.heap[Z]? = some (.cells #[o0, o1, o2, o3, o4, o5] T (0, 0))) (v0 v1 v2 v3 v4 v5 : Value) :
    ((((((w.setCell ⟨Z, 0, none⟩ v0).setCell ⟨Z, 1, none⟩ v1).setCell ⟨Z, 2, none⟩ v2).setCell ⟨Z, 3, none⟩ v3).setCell ⟨Z, 4, none⟩ v4).setCell ⟨Z, 5, none⟩ v5).heap[Z]? = some (.cells #[v0, v1, v2, v3, v4, v5] T (0, 0)) ∧
      Keep (fun x => x = Z) w ((((((w.setCell ⟨Z, 0, none⟩ v0).setCell ⟨Z, 1, none⟩ v1).setCell ⟨Z, 2, none⟩ v2).setCell ⟨Z, 3, none⟩ v3).setCell ⟨Z, 4, none⟩ v4).setCell ⟨Z, 5, none⟩ v5) :=
  ⟨set1 (set1 (set1 (set1 (set1 (set1 h v0) v1) v2) v3) v4) v5,
    ((((((Keep.refl (fun x => x = Z) w).setCell (p := ⟨Z, 0, none⟩) (fun _ => rfl) v0).setCell (p := ⟨Z, 1, none⟩) (fun _ => rfl) v1).setCell (p := ⟨Z, 2, none⟩) (fun _ => rfl) v2).setCell (p := ⟨Z, 3, none⟩) (fun _ => rfl) v3).setCell (p := ⟨Z, 4, none⟩) (fun _ => rfl) v4).setCell (p := ⟨Z, 5, none⟩) (fun _ => rfl) v5⟩
theorem RecAt.keepZ {w w' : World} {Z : Nat} {r : RecV} {a4 : Option Addr} {c4 : Nat} {a5 : Option Addr} {c5 : Nat} (h : RecAt w r a4 c4 a5 c5) (hk : Keep (fun x => x = Z) w w')
    (h4 : ∀ j, blockOf a4 = some j → ¬ j = Z) (h5 : ∀ j, blockOf a5 = some j → ¬ j = Z) : RecAt w' r a4 c4 a5 c5 :=
  ⟨h.kind, h.tid, h.id, h.parts.keep hk h4, h.puts.keep hk h5⟩

/-- What a reader of records hands back. -/
def DecPost (w : World) (l : List UInt8) (e : Ending) (w' : World) : Prop :=
  ∃ a4 c4 a5 c5, e = .returned (.tuple #[recVal (if decOk l then decV l else RecV.none) a4 c4 a5 c5, .int .i64 (if decOk l then 0 else 1)]) ∧
    RecAt w' (if decOk l then decV l else RecV.none) a4 c4 a5 c5 ∧ Keep NoF w w' ∧ (∀ j, blockOf a4 = some j → w.heap.size ≤ j) ∧ ∀ j, blockOf a5 = some j → w.heap.size ≤ j

set_option maxRecDepth 8000 in
set_option maxHeartbeats 4000000 in
theorem decode_any (ao : Option Addr) (cp : Nat) (l : List UInt8) (w : World) (h : SlB w ao cp l) (hb : ∀ g, blockOf ao = some g → g < w.heap.size) :
    Calls Tryz.prog 63 #[.slice ao l.length cp] w (DecPost w l) := by
  have H := Lib.hid h; have HBB := Lib.hid hb
  clear h hb
  go_enter Tryz.func63, Tryz.ntmps63
  go_wp2_with fail
  refine (read_at ao cp l _ (H.out.keep (keep_alloc _ _) (fun _ _ f => f)) (fun g hg => by have := HBB.out g hg; simp; omega) (w.heap.size + 1) (by simp)).mono ?_
  rintro e w1 ⟨rfl, hR, hk⟩
  go_wp2_with fail
  refine (insmall_any _ _ _ _ hR).mono ?_
  rintro e w2 ⟨rfl, hR2, hk2⟩
  go_wp2_with fail
  refine (inlong_any _ _ _ _ hR2).mono ?_
  rintro e w3 ⟨rfl, hR3, hk3⟩
  have hres0 : w3.heap[w.heap.size]? = some (.cells (recCells 0 0 0 false (.slice none 0 0) (.slice none 0 0)) 95 (0, 0)) := by
    have h1 : (w.alloc (.cells (recCells 0 0 0 false (.slice none 0 0) (.slice none 0 0)) 95 (0, 0))).heap[w.heap.size]? = _ := heap_new _ _
    rw [hk3.block _ (Nat.lt_of_lt_of_le (lt_of_heap h1) (Nat.le_trans hk.size hk2.size)) (by omega), hk2.block _ (Nat.lt_of_lt_of_le (lt_of_heap h1) hk.size) (by omega), hk.block _ (lt_of_heap h1) (fun f => f)]
    exact h1
  have hlt3 : w.heap.size + 1 < w3.heap.size := by obtain ⟨_, _, _, _, hV, _⟩ := hR3; exact lt_of_heap hV.1
  have k03 : Keep NoF w w3 := ((keep_alloc w _).trans' hk).trans (hk2.trans' hk3) (fun _ _ f => f) (fun j hj e => by omega)
  have hD : DecI w (w3.alloc (.cells (recCells (kindR l) (tidR l) 0 false (.slice none 0 0) (.slice none 0 0)) 95 (0, 0))) w.heap.size (w.heap.size + 1) w3.heap.size (blockOf ao) (st2 l) (kindR l) (tidR l) 0 false (.slice none 0 0) (.slice none 0 0) [] [] := by
    refine ⟨hR3.keep (keep_alloc _ _) (fun f => f) (fun _ _ f => f), heap_new _ _, ?_, OwnI.nil _, OwnP.nil _, k03.alloc _, Nat.le_refl _, by omega, hlt3, HBB.out, nofun, nofun⟩
    rw [heap_alloc_old _ _ (lt_of_heap hres0)]; exact hres0
  have HD := Lib.hid hD
  have HKK : Hid (InI64 (kindR l)) := kindR_in l
  have HTT : Hid (InI64 (tidR l)) := wrap_in _
  rw [show wrap64 ((rdN 8 (rdS 2 (some l)) : Nat) : Int) = tidR l from rfl, show ((rdN 2 (some l) : Nat) : Int) = kindR l from rfl]
  obtain ⟨kk, hkk⟩ : ∃ kk, kindR l = kk := ⟨_, rfl⟩
  obtain ⟨tt, htt⟩ : ∃ tt, tidR l = tt := ⟨_, rfl⟩
  rw [hkk] at HD HKK ⊢
  rw [htt] at HD HTT ⊢
  have EK := Lib.hid hkk; have ET := Lib.hid htt
  clear hR hk hR2 hk2 hR3 hk3 hres0 k03 hD hkk htt
  go_wp2_with fail
  obtain ⟨W4, hW4⟩ : ∃ W, w3.alloc (.cells (recCells kk tt 0 false (.slice none 0 0) (.slice none 0 0)) 95 (0, 0)) = W := ⟨_, rfl⟩
  have hW4b : w3.alloc (.cells #[.int .i64 kk, .int .i64 tt, .int .i64 0, .bool false, .slice none 0 0, .slice none 0 0] 95) = W4 := hW4
  rw [hW4] at HD
  rw [hW4b]
  clear hW4 hW4b
  obtain ⟨Z, hZ⟩ : ∃ Z, w.heap.size = Z := ⟨_, rfl⟩
  obtain ⟨P, hP⟩ : ∃ P, Z + 1 = P := ⟨_, rfl⟩
  obtain ⟨R, hR⟩ : ∃ R, w3.heap.size = R := ⟨_, rfl⟩
  rw [hZ, hP, hR] at HD
  rw [hZ, hP, hR]
  have HPZ := Lib.hid hP
  clear hZ hP hR hlt3
  obtain ⟨g, hg⟩ : ∃ g, blockOf ao = g := ⟨_, rfl⟩
  rw [hg] at HD
  clear hg
  refine (has_any kk _).mono ?_
  rintro e w5 ⟨rfl, rfl⟩
  rcases has_class kk with hcl | hcl | hcl | hcl | hcl
  · have HCL : Hid (hasId kk = true ∧ hasYes kk = false ∧ hasParts kk = false ∧ hasPuts kk = false) := hcl
    obtain ⟨q1, q2, q3, q4⟩ := hcl
    rw [q1, q2, q3, q4]
    clear q1 q2 q3 q4
    have f2 := free_of_heap HD.out.row 2
    go_wp2_with fail
    refine (inlong_any P g _ _ HD.out.rd).mono ?_
    rintro e w6 ⟨rfl, hR6, hk6⟩
    have hD6 := HD.out.step ⟨hR6, hk6⟩
    have HD6 := Lib.hid hD6
    clear f2
    have f2 := free_of_heap HD6.out.row 2
    have e2 := cell_of_heap HD6.out.row 2
    simp [recCells] at e2
    obtain ⟨ii, hii⟩ : ∃ v, wrap64 ((rdN 8 (st2 l) : Nat) : Int) = v := ⟨_, rfl⟩
    have HII : Hid (InI64 ii) := by rw [← hii]; exact wrap_in _
    have HI7 := Lib.hid (HD6.out.setId ii)
    rw [hii]
    have EI := Lib.hid hii
    clear hR6 hk6 hD6 hii
    go_upto_region 6 with fail
    obtain ⟨W7, hW7⟩ : ∃ W, w6.setCell ⟨R, 2, none⟩ (.int .i64 ii) = W := ⟨_, rfl⟩
    rw [hW7] at HI7
    rw [hW7]
    clear hW7 f2 e2
    have sl4 := SlI.nil W7
    have HN4 : Hid (∀ j, blockOf (none : Option Addr) = some j → ¬ j = Z) := nofun
    have HB4 : Hid (∀ j, blockOf (none : Option Addr) = some j → w.heap.size ≤ j) := nofun
    have sl5 := SlP.nil W7
    have HN5 : Hid (∀ j, blockOf (none : Option Addr) = some j → ¬ j = Z) := nofun
    have HB5 : Hid (∀ j, blockOf (none : Option Addr) = some j → w.heap.size ≤ j) := nofun
    have hrat : RecAt W7 ⟨kk, tt, ii, false, [], []⟩ none 0 none 0 := ⟨kindR_in2 HKK.out, HTT.out, HII.out, sl4, sl5⟩
    have HRAT := Lib.hid hrat
    clear hrat sl4 sl5
    have hrow := HI7.out.row
    have hres := HI7.out.res
    have e0 := cell_of_heap hrow 0
    have e1 := cell_of_heap hrow 1
    have e2 := cell_of_heap hrow 2
    have e3 := cell_of_heap hrow 3
    have e4 := cell_of_heap hrow 4
    have e5 := cell_of_heap hrow 5
    have z0 := cell_of_heap hres 0
    have z1 := cell_of_heap hres 1
    have z2 := cell_of_heap hres 2
    have z3 := cell_of_heap hres 3
    have z4 := cell_of_heap hres 4
    have z5 := cell_of_heap hres 5
    have y0 := free_of_heap hres 0
    have y1 := free_of_heap hres 1
    have y2 := free_of_heap hres 2
    have y3 := free_of_heap hres 3
    have y4 := free_of_heap hres 4
    have y5 := free_of_heap hres 5
    simp [recCells] at e0 e1 e2 e3 e4 e5 z0 z1 z2 z3 z4 z5
    have HV : Hid (decV l = ⟨kk, tt, ii, false, [], []⟩ ∧ decS l = rdS 8 (st2 l)) := by
      refine Lib.hid ⟨?_, ?_⟩ <;> simp [decV, decS, idR, idS, yesR, yesS, partsR, partsS, putsR, putsS, EK.out, ET.out, HCL.out.1, HCL.out.2.1, HCL.out.2.2.1, HCL.out.2.2.2, EI.out]
    go_wp2_with fail
    refine (inend_any P g (rdS 8 (st2 l)) _ HI7.out.rd).mono ?_
    rintro e w6 ⟨rfl, rfl⟩
    obtain ⟨be, hbe⟩ : ∃ be, endOf (rdS 8 (st2 l)) = be := ⟨_, rfl⟩
    rw [hbe]
    have HBE := Lib.hid hbe; clear hbe
    obtain ⟨br, hbr⟩ : ∃ br, recB ⟨kk, tt, ii, false, [], []⟩ = br := ⟨_, rfl⟩
    have HBR := Lib.hid hbr; clear hbr
    have hok : decOk l = (be && br) := by unfold decOk; rw [HV.out.1, HV.out.2, HBE.out, HBR.out]
    have HOK := Lib.hid hok; clear hok
    cases be
    · go_wp2_with fail
      (try simp only [Exit.inBlock, Exit.then])
      have h6 := set6 HI7.out.res (.int .i64 0) (.int .i64 0) (.int .i64 0) (.bool false) (.slice none 0 0) (.slice none 0 0)
      refine bodyPost_ret (results_rec rfl _ _ Z _ _ _ rfl h6.1 rfl) rfl ?_
      have hf : decOk l = false := HOK.out
      unfold DecPost
      rw [hf]
      exact ⟨none, 0, none, 0, rfl, ⟨zero_in, zero_in, zero_in, SlI.nil _, SlP.nil _⟩, HI7.out.keep.trans h6.2 (fun _ _ f => f) (fun j hj e => by have := HI7.out.zn; omega), nofun, nofun⟩
    · go_wp2_with fail
      refine (krecord_any ⟨kk, tt, ii, false, [], []⟩ none 0 none 0 _ HRAT.out).mono ?_
      rintro e w7 ⟨rfl, hk7⟩
      rw [HBR.out]
      replace e0 := hk7.cell' e0 (fun f => f); replace e1 := hk7.cell' e1 (fun f => f); replace e2 := hk7.cell' e2 (fun f => f); replace e3 := hk7.cell' e3 (fun f => f); replace e4 := hk7.cell' e4 (fun f => f); replace e5 := hk7.cell' e5 (fun f => f)
      replace z0 := hk7.cell' z0 (fun f => f); replace z1 := hk7.cell' z1 (fun f => f); replace z2 := hk7.cell' z2 (fun f => f); replace z3 := hk7.cell' z3 (fun f => f); replace z4 := hk7.cell' z4 (fun f => f); replace z5 := hk7.cell' z5 (fun f => f)
      have hres7 : w7.heap[Z]? = some (.cells (recCells 0 0 0 false (.slice none 0 0) (.slice none 0 0)) 95 (0, 0)) := by rw [hk7.block Z (lt_of_heap HI7.out.res) (fun f => f)]; exact HI7.out.res
      clear y0 y1 y2 y3 y4 y5
      have y0 := free_of_heap hres7 0
      have y1 := free_of_heap hres7 1
      have y2 := free_of_heap hres7 2
      have y3 := free_of_heap hres7 3
      have y4 := free_of_heap hres7 4
      have y5 := free_of_heap hres7 5
      have HK7 := Lib.hid hk7; have HRES7 := Lib.hid hres7
      clear hk7 hres7
      cases br
      · go_wp2_with fail
        (try simp only [Exit.inBlock, Exit.then])
        have h6 := set6 HRES7.out (.int .i64 0) (.int .i64 0) (.int .i64 0) (.bool false) (.slice none 0 0) (.slice none 0 0)
        refine bodyPost_ret (results_rec rfl _ _ Z _ _ _ rfl h6.1 rfl) rfl ?_
        have hf : decOk l = false := HOK.out
        unfold DecPost
        rw [hf]
        exact ⟨none, 0, none, 0, rfl, ⟨zero_in, zero_in, zero_in, SlI.nil _, SlP.nil _⟩, (HI7.out.keep.trans' HK7.out).trans h6.2 (fun _ _ f => f) (fun j hj e => by have := HI7.out.zn; omega), nofun, nofun⟩
      · go_wp2_with fail
        (try simp only [Exit.inBlock, Exit.then])
        have h6 := set6 HRES7.out (.int .i64 kk) (.int .i64 tt) (.int .i64 ii) (.bool false) (.slice none 0 0) (.slice none 0 0)
        refine bodyPost_ret (results_rec rfl _ _ Z _ _ _ rfl h6.1 rfl) rfl ?_
        have hf : decOk l = true := HOK.out
        unfold DecPost
        rw [hf]
        simp only [if_true, HV.out.1]
        exact ⟨_, _, _, _, rfl, (HRAT.out.keep HK7.out).keepZ h6.2 HN4.out HN5.out, (HI7.out.keep.trans' HK7.out).trans h6.2 (fun _ _ f => f) (fun j hj e => by have := HI7.out.zn; omega), HB4.out, HB5.out⟩
  · have HCL : Hid (hasId kk = false ∧ hasYes kk = true ∧ hasParts kk = false ∧ hasPuts kk = false) := hcl
    obtain ⟨q1, q2, q3, q4⟩ := hcl
    rw [q1, q2, q3, q4]
    clear q1 q2 q3 q4
    have f2 := free_of_heap HD.out.row 3
    go_wp2_with fail
    refine (intruth_any P g _ _ HD.out.rd).mono ?_
    rintro e w6 ⟨rfl, hR6, hk6⟩
    have hD6 := HD.out.step ⟨hR6, hk6⟩
    have HD6 := Lib.hid hD6
    clear f2
    have f2 := free_of_heap HD6.out.row 3
    have e2 := cell_of_heap HD6.out.row 3
    simp [recCells] at e2
    obtain ⟨yy, hii⟩ : ∃ v, decide (rdN 1 (st2 l) = 1) = v := ⟨_, rfl⟩
    have HI7 := Lib.hid (HD6.out.setYes yy)
    rw [hii]
    have EI := Lib.hid hii
    clear hR6 hk6 hD6 hii
    go_upto_region 8 with fail
    obtain ⟨W7, hW7⟩ : ∃ W, w6.setCell ⟨R, 3, none⟩ (.bool yy) = W := ⟨_, rfl⟩
    rw [hW7] at HI7
    rw [hW7]
    clear hW7 f2 e2
    have sl4 := SlI.nil W7
    have HN4 : Hid (∀ j, blockOf (none : Option Addr) = some j → ¬ j = Z) := nofun
    have HB4 : Hid (∀ j, blockOf (none : Option Addr) = some j → w.heap.size ≤ j) := nofun
    have sl5 := SlP.nil W7
    have HN5 : Hid (∀ j, blockOf (none : Option Addr) = some j → ¬ j = Z) := nofun
    have HB5 : Hid (∀ j, blockOf (none : Option Addr) = some j → w.heap.size ≤ j) := nofun
    have hrat : RecAt W7 ⟨kk, tt, 0, yy, [], []⟩ none 0 none 0 := ⟨kindR_in2 HKK.out, HTT.out, zero_in, sl4, sl5⟩
    have HRAT := Lib.hid hrat
    clear hrat sl4 sl5
    have hrow := HI7.out.row
    have hres := HI7.out.res
    have e0 := cell_of_heap hrow 0
    have e1 := cell_of_heap hrow 1
    have e2 := cell_of_heap hrow 2
    have e3 := cell_of_heap hrow 3
    have e4 := cell_of_heap hrow 4
    have e5 := cell_of_heap hrow 5
    have z0 := cell_of_heap hres 0
    have z1 := cell_of_heap hres 1
    have z2 := cell_of_heap hres 2
    have z3 := cell_of_heap hres 3
    have z4 := cell_of_heap hres 4
    have z5 := cell_of_heap hres 5
    have y0 := free_of_heap hres 0
    have y1 := free_of_heap hres 1
    have y2 := free_of_heap hres 2
    have y3 := free_of_heap hres 3
    have y4 := free_of_heap hres 4
    have y5 := free_of_heap hres 5
    simp [recCells] at e0 e1 e2 e3 e4 e5 z0 z1 z2 z3 z4 z5
    have HV : Hid (decV l = ⟨kk, tt, 0, yy, [], []⟩ ∧ decS l = rdTr (st2 l)) := by
      refine Lib.hid ⟨?_, ?_⟩ <;> simp [decV, decS, idR, idS, yesR, yesS, partsR, partsS, putsR, putsS, EK.out, ET.out, HCL.out.1, HCL.out.2.1, HCL.out.2.2.1, HCL.out.2.2.2, EI.out]
    go_wp2_with fail
    refine (inend_any P g (rdTr (st2 l)) _ HI7.out.rd).mono ?_
    rintro e w6 ⟨rfl, rfl⟩
    obtain ⟨be, hbe⟩ : ∃ be, endOf (rdTr (st2 l)) = be := ⟨_, rfl⟩
    rw [hbe]
    have HBE := Lib.hid hbe; clear hbe
    obtain ⟨br, hbr⟩ : ∃ br, recB ⟨kk, tt, 0, yy, [], []⟩ = br := ⟨_, rfl⟩
    have HBR := Lib.hid hbr; clear hbr
    have hok : decOk l = (be && br) := by unfold decOk; rw [HV.out.1, HV.out.2, HBE.out, HBR.out]
    have HOK := Lib.hid hok; clear hok
    cases be
    · go_wp2_with fail
      (try simp only [Exit.inBlock, Exit.then])
      have h6 := set6 HI7.out.res (.int .i64 0) (.int .i64 0) (.int .i64 0) (.bool false) (.slice none 0 0) (.slice none 0 0)
      refine bodyPost_ret (results_rec rfl _ _ Z _ _ _ rfl h6.1 rfl) rfl ?_
      have hf : decOk l = false := HOK.out
      unfold DecPost
      rw [hf]
      exact ⟨none, 0, none, 0, rfl, ⟨zero_in, zero_in, zero_in, SlI.nil _, SlP.nil _⟩, HI7.out.keep.trans h6.2 (fun _ _ f => f) (fun j hj e => by have := HI7.out.zn; omega), nofun, nofun⟩
    · go_wp2_with fail
      refine (krecord_any ⟨kk, tt, 0, yy, [], []⟩ none 0 none 0 _ HRAT.out).mono ?_
      rintro e w7 ⟨rfl, hk7⟩
      rw [HBR.out]
      replace e0 := hk7.cell' e0 (fun f => f); replace e1 := hk7.cell' e1 (fun f => f); replace e2 := hk7.cell' e2 (fun f => f); replace e3 := hk7.cell' e3 (fun f => f); replace e4 := hk7.cell' e4 (fun f => f); replace e5 := hk7.cell' e5 (fun f => f)
      replace z0 := hk7.cell' z0 (fun f => f); replace z1 := hk7.cell' z1 (fun f => f); replace z2 := hk7.cell' z2 (fun f => f); replace z3 := hk7.cell' z3 (fun f => f); replace z4 := hk7.cell' z4 (fun f => f); replace z5 := hk7.cell' z5 (fun f => f)
      have hres7 : w7.heap[Z]? = some (.cells (recCells 0 0 0 false (.slice none 0 0) (.slice none 0 0)) 95 (0, 0)) := by rw [hk7.block Z (lt_of_heap HI7.out.res) (fun f => f)]; exact HI7.out.res
      clear y0 y1 y2 y3 y4 y5
      have y0 := free_of_heap hres7 0
      have y1 := free_of_heap hres7 1
      have y2 := free_of_heap hres7 2
      have y3 := free_of_heap hres7 3
      have y4 := free_of_heap hres7 4
      have y5 := free_of_heap hres7 5
      have HK7 := Lib.hid hk7; have HRES7 := Lib.hid hres7
      clear hk7 hres7
      cases br
      · go_wp2_with fail
        (try simp only [Exit.inBlock, Exit.then])
        have h6 := set6 HRES7.out (.int .i64 0) (.int .i64 0) (.int .i64 0) (.bool false) (.slice none 0 0) (.slice none 0 0)
        refine bodyPost_ret (results_rec rfl _ _ Z _ _ _ rfl h6.1 rfl) rfl ?_
        have hf : decOk l = false := HOK.out
        unfold DecPost
        rw [hf]
        exact ⟨none, 0, none, 0, rfl, ⟨zero_in, zero_in, zero_in, SlI.nil _, SlP.nil _⟩, (HI7.out.keep.trans' HK7.out).trans h6.2 (fun _ _ f => f) (fun j hj e => by have := HI7.out.zn; omega), nofun, nofun⟩
      · go_wp2_with fail
        (try simp only [Exit.inBlock, Exit.then])
        have h6 := set6 HRES7.out (.int .i64 kk) (.int .i64 tt) (.int .i64 0) (.bool yy) (.slice none 0 0) (.slice none 0 0)
        refine bodyPost_ret (results_rec rfl _ _ Z _ _ _ rfl h6.1 rfl) rfl ?_
        have hf : decOk l = true := HOK.out
        unfold DecPost
        rw [hf]
        simp only [if_true, HV.out.1]
        exact ⟨_, _, _, _, rfl, (HRAT.out.keep HK7.out).keepZ h6.2 HN4.out HN5.out, (HI7.out.keep.trans' HK7.out).trans h6.2 (fun _ _ f => f) (fun j hj e => by have := HI7.out.zn; omega), HB4.out, HB5.out⟩
  · have HCL : Hid (hasId kk = false ∧ hasYes kk = false ∧ hasParts kk = true ∧ hasPuts kk = false) := hcl
    obtain ⟨q1, q2, q3, q4⟩ := hcl
    rw [q1, q2, q3, q4]
    clear q1 q2 q3 q4
    obtain ⟨N, hN⟩ : ∃ N, rdN 2 (st2 l) = N := ⟨_, rfl⟩
    obtain ⟨st1, hst1⟩ : ∃ s, rdS 2 (st2 l) = s := ⟨_, rfl⟩
    have hNle : N ≤ 65535 := by rw [← hN]; have := rdN_lt 2 (st2 l); omega
    have EN := Lib.hid hN; have ES1 := Lib.hid hst1
    clear hN hst1
    go_wp2_with fail
    refine (insmall_any P g _ _ HD.out.rd).mono ?_
    rintro e w6 ⟨rfl, hR6, hk6⟩
    rw [EN.out]
    rw [ES1.out] at hR6
    have HD6 := Lib.hid (HD.out.step ⟨hR6, hk6⟩)
    clear hR6 hk6
    go_wp2_with fail
    go_loopw [10] (fun nv wr => ∃ j : Nat, j ≤ N ∧ nv = .int .i64 ((N : Int) - j) ∧ ∃ v, DecI w wr Z P R g (readInts j st1).2 kk tt 0 false v (.slice none 0 0) (readInts j st1).1 []) (fun nv _ => (intOf nv).toNat)
    case atStart => exact ⟨0, Nat.zero_le _, by simp, _, HD6.out⟩
    case round =>
      obtain ⟨j, hj, rfl, v, hD⟩ := hrel
      have HDj := Lib.hid hD
      clear hD HD6
      obtain ⟨QS, hQS⟩ : ∃ q, (readInts j st1).1 = q := ⟨_, rfl⟩
      obtain ⟨QT, hQT⟩ : ∃ q, (readInts j st1).2 = q := ⟨_, rfl⟩
      have hQL : QS.length ≤ 65535 := by rw [← hQS]; have := readInts_len j st1; omega
      have QMEM : Hid (∀ n ∈ QS, InI64 n) := by rw [← hQS]; exact Lib.hid (readInts_mem j st1)
      rw [hQS, hQT] at HDj
      have EQS := Lib.hid hQS; have EQT := Lib.hid hQT
      clear hQS hQT
      by_cases hjN : j = N
      · subst hjN
        have hz : (j : Int) - j = 0 := by omega
        have HFIN : Hid (readInts j st1 = (QS, QT)) := by rw [← EQS.out, ← EQT.out]; exact Lib.hid rfl
        rw [hz]
        obtain ⟨ae4, ce4, rfl, sl4, b4⟩ := HDj.out.own4.sl QMEM.out
        have HN4 : Hid (∀ j, blockOf ae4 = some j → ¬ j = Z) := fun j hj => by have := HDj.out.n4 j (b4 ▸ hj); have := HDj.out.pr; have := HDj.out.zp; omega
        have HB4 : Hid (∀ j, blockOf ae4 = some j → w.heap.size ≤ j) := fun j hj => by have := HDj.out.n4 j (b4 ▸ hj); have := HDj.out.pr; have := HDj.out.zp; have := HDj.out.zn; omega
        clear b4
        have sl5 := SlP.nil wr
        have HN5 : Hid (∀ j, blockOf (none : Option Addr) = some j → ¬ j = Z) := nofun
        have HB5 : Hid (∀ j, blockOf (none : Option Addr) = some j → w.heap.size ≤ j) := nofun
        have hrat : RecAt wr ⟨kk, tt, 0, false, QS, []⟩ ae4 ce4 none 0 := ⟨kindR_in2 HKK.out, HTT.out, zero_in, sl4, sl5⟩
        have HRAT := Lib.hid hrat
        clear hrat sl4 sl5
        have hrow := HDj.out.row
        have hres := HDj.out.res
        have e0 := cell_of_heap hrow 0
        have e1 := cell_of_heap hrow 1
        have e2 := cell_of_heap hrow 2
        have e3 := cell_of_heap hrow 3
        have e4 := cell_of_heap hrow 4
        have e5 := cell_of_heap hrow 5
        have z0 := cell_of_heap hres 0
        have z1 := cell_of_heap hres 1
        have z2 := cell_of_heap hres 2
        have z3 := cell_of_heap hres 3
        have z4 := cell_of_heap hres 4
        have z5 := cell_of_heap hres 5
        have y0 := free_of_heap hres 0
        have y1 := free_of_heap hres 1
        have y2 := free_of_heap hres 2
        have y3 := free_of_heap hres 3
        have y4 := free_of_heap hres 4
        have y5 := free_of_heap hres 5
        simp [recCells] at e0 e1 e2 e3 e4 e5 z0 z1 z2 z3 z4 z5
        have HV : Hid (decV l = ⟨kk, tt, 0, false, QS, []⟩ ∧ decS l = QT) := by
          refine Lib.hid ⟨?_, ?_⟩ <;> simp [decV, decS, idR, idS, yesR, yesS, partsR, partsS, putsR, putsS, EK.out, ET.out, HCL.out.1, HCL.out.2.1, HCL.out.2.2.1, HCL.out.2.2.2, EN.out, ES1.out, HFIN.out]
        go_wp2_with fail
        refine (inend_any P g (QT) _ HDj.out.rd).mono ?_
        rintro e w6 ⟨rfl, rfl⟩
        obtain ⟨be, hbe⟩ : ∃ be, endOf (QT) = be := ⟨_, rfl⟩
        rw [hbe]
        have HBE := Lib.hid hbe; clear hbe
        obtain ⟨br, hbr⟩ : ∃ br, recB ⟨kk, tt, 0, false, QS, []⟩ = br := ⟨_, rfl⟩
        have HBR := Lib.hid hbr; clear hbr
        have hok : decOk l = (be && br) := by unfold decOk; rw [HV.out.1, HV.out.2, HBE.out, HBR.out]
        have HOK := Lib.hid hok; clear hok
        cases be
        · go_wp2_with fail
          (try simp only [Exit.inBlock, Exit.then])
          have h6 := set6 HDj.out.res (.int .i64 0) (.int .i64 0) (.int .i64 0) (.bool false) (.slice none 0 0) (.slice none 0 0)
          refine bodyPost_ret (results_rec rfl _ _ Z _ _ _ rfl h6.1 rfl) rfl ?_
          have hf : decOk l = false := HOK.out
          unfold DecPost
          rw [hf]
          exact ⟨none, 0, none, 0, rfl, ⟨zero_in, zero_in, zero_in, SlI.nil _, SlP.nil _⟩, HDj.out.keep.trans h6.2 (fun _ _ f => f) (fun j hj e => by have := HDj.out.zn; omega), nofun, nofun⟩
        · go_wp2_with fail
          refine (krecord_any ⟨kk, tt, 0, false, QS, []⟩ ae4 ce4 none 0 _ HRAT.out).mono ?_
          rintro e w7 ⟨rfl, hk7⟩
          rw [HBR.out]
          replace e0 := hk7.cell' e0 (fun f => f); replace e1 := hk7.cell' e1 (fun f => f); replace e2 := hk7.cell' e2 (fun f => f); replace e3 := hk7.cell' e3 (fun f => f); replace e4 := hk7.cell' e4 (fun f => f); replace e5 := hk7.cell' e5 (fun f => f)
          replace z0 := hk7.cell' z0 (fun f => f); replace z1 := hk7.cell' z1 (fun f => f); replace z2 := hk7.cell' z2 (fun f => f); replace z3 := hk7.cell' z3 (fun f => f); replace z4 := hk7.cell' z4 (fun f => f); replace z5 := hk7.cell' z5 (fun f => f)
          have hres7 : w7.heap[Z]? = some (.cells (recCells 0 0 0 false (.slice none 0 0) (.slice none 0 0)) 95 (0, 0)) := by rw [hk7.block Z (lt_of_heap HDj.out.res) (fun f => f)]; exact HDj.out.res
          clear y0 y1 y2 y3 y4 y5
          have y0 := free_of_heap hres7 0
          have y1 := free_of_heap hres7 1
          have y2 := free_of_heap hres7 2
          have y3 := free_of_heap hres7 3
          have y4 := free_of_heap hres7 4
          have y5 := free_of_heap hres7 5
          have HK7 := Lib.hid hk7; have HRES7 := Lib.hid hres7
          clear hk7 hres7
          cases br
          · go_wp2_with fail
            (try simp only [Exit.inBlock, Exit.then])
            have h6 := set6 HRES7.out (.int .i64 0) (.int .i64 0) (.int .i64 0) (.bool false) (.slice none 0 0) (.slice none 0 0)
            refine bodyPost_ret (results_rec rfl _ _ Z _ _ _ rfl h6.1 rfl) rfl ?_
            have hf : decOk l = false := HOK.out
            unfold DecPost
            rw [hf]
            exact ⟨none, 0, none, 0, rfl, ⟨zero_in, zero_in, zero_in, SlI.nil _, SlP.nil _⟩, (HDj.out.keep.trans' HK7.out).trans h6.2 (fun _ _ f => f) (fun j hj e => by have := HDj.out.zn; omega), nofun, nofun⟩
          · go_wp2_with fail
            (try simp only [Exit.inBlock, Exit.then])
            have h6 := set6 HRES7.out (.int .i64 kk) (.int .i64 tt) (.int .i64 0) (.bool false) (.slice ae4 (QS).length ce4) (.slice none 0 0)
            refine bodyPost_ret (results_rec rfl _ _ Z _ _ _ rfl h6.1 rfl) rfl ?_
            have hf : decOk l = true := HOK.out
            unfold DecPost
            rw [hf]
            simp only [if_true, HV.out.1]
            exact ⟨_, _, _, _, rfl, (HRAT.out.keep HK7.out).keepZ h6.2 HN4.out HN5.out, (HDj.out.keep.trans' HK7.out).trans h6.2 (fun _ _ f => f) (fun j hj e => by have := HDj.out.zn; omega), HB4.out, HB5.out⟩
      · have hj1 : (0 : Int) < (N : Int) - j := by omega
        cases QT with
        | none =>
          have HFIN : Hid (readInts N st1 = (QS, none)) := by rw [readInts_stop j N st1 EQT.out hj, ← EQS.out, ← EQT.out]; exact Lib.hid rfl
          go_wp2_with fail
          refine (inbad_any P g _ _ HDj.out.rd).mono ?_
          rintro e w7 ⟨rfl, rfl⟩
          rw [show (none : Option (List UInt8)).isNone = true from rfl]
          obtain ⟨ae4, ce4, rfl, sl4, b4⟩ := HDj.out.own4.sl QMEM.out
          have HN4 : Hid (∀ j, blockOf ae4 = some j → ¬ j = Z) := fun j hj => by have := HDj.out.n4 j (b4 ▸ hj); have := HDj.out.pr; have := HDj.out.zp; omega
          have HB4 : Hid (∀ j, blockOf ae4 = some j → w.heap.size ≤ j) := fun j hj => by have := HDj.out.n4 j (b4 ▸ hj); have := HDj.out.pr; have := HDj.out.zp; have := HDj.out.zn; omega
          clear b4
          have sl5 := SlP.nil wr
          have HN5 : Hid (∀ j, blockOf (none : Option Addr) = some j → ¬ j = Z) := nofun
          have HB5 : Hid (∀ j, blockOf (none : Option Addr) = some j → w.heap.size ≤ j) := nofun
          have hrat : RecAt wr ⟨kk, tt, 0, false, QS, []⟩ ae4 ce4 none 0 := ⟨kindR_in2 HKK.out, HTT.out, zero_in, sl4, sl5⟩
          have HRAT := Lib.hid hrat
          clear hrat sl4 sl5
          have hrow := HDj.out.row
          have hres := HDj.out.res
          have e0 := cell_of_heap hrow 0
          have e1 := cell_of_heap hrow 1
          have e2 := cell_of_heap hrow 2
          have e3 := cell_of_heap hrow 3
          have e4 := cell_of_heap hrow 4
          have e5 := cell_of_heap hrow 5
          have z0 := cell_of_heap hres 0
          have z1 := cell_of_heap hres 1
          have z2 := cell_of_heap hres 2
          have z3 := cell_of_heap hres 3
          have z4 := cell_of_heap hres 4
          have z5 := cell_of_heap hres 5
          have y0 := free_of_heap hres 0
          have y1 := free_of_heap hres 1
          have y2 := free_of_heap hres 2
          have y3 := free_of_heap hres 3
          have y4 := free_of_heap hres 4
          have y5 := free_of_heap hres 5
          simp [recCells] at e0 e1 e2 e3 e4 e5 z0 z1 z2 z3 z4 z5
          have HV : Hid (decV l = ⟨kk, tt, 0, false, QS, []⟩ ∧ decS l = none) := by
            refine Lib.hid ⟨?_, ?_⟩ <;> simp [decV, decS, idR, idS, yesR, yesS, partsR, partsS, putsR, putsS, EK.out, ET.out, HCL.out.1, HCL.out.2.1, HCL.out.2.2.1, HCL.out.2.2.2, EN.out, ES1.out, HFIN.out]
          go_wp2_with fail
          refine (inend_any P g (none) _ HDj.out.rd).mono ?_
          rintro e w6 ⟨rfl, rfl⟩
          obtain ⟨be, hbe⟩ : ∃ be, endOf (none) = be := ⟨_, rfl⟩
          rw [hbe]
          have HBE := Lib.hid hbe; clear hbe
          obtain ⟨br, hbr⟩ : ∃ br, recB ⟨kk, tt, 0, false, QS, []⟩ = br := ⟨_, rfl⟩
          have HBR := Lib.hid hbr; clear hbr
          have hok : decOk l = (be && br) := by unfold decOk; rw [HV.out.1, HV.out.2, HBE.out, HBR.out]
          have HOK := Lib.hid hok; clear hok
          cases be
          · go_wp2_with fail
            (try simp only [Exit.inBlock, Exit.then])
            have h6 := set6 HDj.out.res (.int .i64 0) (.int .i64 0) (.int .i64 0) (.bool false) (.slice none 0 0) (.slice none 0 0)
            refine bodyPost_ret (results_rec rfl _ _ Z _ _ _ rfl h6.1 rfl) rfl ?_
            have hf : decOk l = false := HOK.out
            unfold DecPost
            rw [hf]
            exact ⟨none, 0, none, 0, rfl, ⟨zero_in, zero_in, zero_in, SlI.nil _, SlP.nil _⟩, HDj.out.keep.trans h6.2 (fun _ _ f => f) (fun j hj e => by have := HDj.out.zn; omega), nofun, nofun⟩
          · go_wp2_with fail
            refine (krecord_any ⟨kk, tt, 0, false, QS, []⟩ ae4 ce4 none 0 _ HRAT.out).mono ?_
            rintro e w7 ⟨rfl, hk7⟩
            rw [HBR.out]
            replace e0 := hk7.cell' e0 (fun f => f); replace e1 := hk7.cell' e1 (fun f => f); replace e2 := hk7.cell' e2 (fun f => f); replace e3 := hk7.cell' e3 (fun f => f); replace e4 := hk7.cell' e4 (fun f => f); replace e5 := hk7.cell' e5 (fun f => f)
            replace z0 := hk7.cell' z0 (fun f => f); replace z1 := hk7.cell' z1 (fun f => f); replace z2 := hk7.cell' z2 (fun f => f); replace z3 := hk7.cell' z3 (fun f => f); replace z4 := hk7.cell' z4 (fun f => f); replace z5 := hk7.cell' z5 (fun f => f)
            have hres7 : w7.heap[Z]? = some (.cells (recCells 0 0 0 false (.slice none 0 0) (.slice none 0 0)) 95 (0, 0)) := by rw [hk7.block Z (lt_of_heap HDj.out.res) (fun f => f)]; exact HDj.out.res
            clear y0 y1 y2 y3 y4 y5
            have y0 := free_of_heap hres7 0
            have y1 := free_of_heap hres7 1
            have y2 := free_of_heap hres7 2
            have y3 := free_of_heap hres7 3
            have y4 := free_of_heap hres7 4
            have y5 := free_of_heap hres7 5
            have HK7 := Lib.hid hk7; have HRES7 := Lib.hid hres7
            clear hk7 hres7
            cases br
            · go_wp2_with fail
              (try simp only [Exit.inBlock, Exit.then])
              have h6 := set6 HRES7.out (.int .i64 0) (.int .i64 0) (.int .i64 0) (.bool false) (.slice none 0 0) (.slice none 0 0)
              refine bodyPost_ret (results_rec rfl _ _ Z _ _ _ rfl h6.1 rfl) rfl ?_
              have hf : decOk l = false := HOK.out
              unfold DecPost
              rw [hf]
              exact ⟨none, 0, none, 0, rfl, ⟨zero_in, zero_in, zero_in, SlI.nil _, SlP.nil _⟩, (HDj.out.keep.trans' HK7.out).trans h6.2 (fun _ _ f => f) (fun j hj e => by have := HDj.out.zn; omega), nofun, nofun⟩
            · go_wp2_with fail
              (try simp only [Exit.inBlock, Exit.then])
              have h6 := set6 HRES7.out (.int .i64 kk) (.int .i64 tt) (.int .i64 0) (.bool false) (.slice ae4 (QS).length ce4) (.slice none 0 0)
              refine bodyPost_ret (results_rec rfl _ _ Z _ _ _ rfl h6.1 rfl) rfl ?_
              have hf : decOk l = true := HOK.out
              unfold DecPost
              rw [hf]
              simp only [if_true, HV.out.1]
              exact ⟨_, _, _, _, rfl, (HRAT.out.keep HK7.out).keepZ h6.2 HN4.out HN5.out, (HDj.out.keep.trans' HK7.out).trans h6.2 (fun _ _ f => f) (fun j hj e => by have := HDj.out.zn; omega), HB4.out, HB5.out⟩
        | some m =>
          have hsn := readInts_snoc j st1 m EQT.out
          rw [EQS.out] at hsn
          have HSN := Lib.hid hsn
          clear hsn
          go_wp2_with fail
          refine (inbad_any P g _ _ HDj.out.rd).mono ?_
          rintro e w7 ⟨rfl, rfl⟩
          rw [show (some m).isNone = false from rfl]
          have HDd := Lib.hid (HDj.out.still (Keep.refl NoF wr).drew)
          have e4 := cell_of_heap HDd.out.row 4
          simp [recCells] at e4
          go_wp2_with fail
          go_region_law (first
            | (refine step_app 44 44 3 (.int .i64 0) 1 8 Tryz.underlying44 infoI64 rfl (by decide) (by decide) rfl rfl rfl rfl ((show World.ownsRow _ _ _ _ _ _ _ from HD8.out.own4).alloc _) (Src.one Tryz.underlying44 (heap_new _ _) rfl 1) (by omega) ?_; intro ao9 cp9 w9 hown9 hgr9 hfr9; have hfree9 := keptR HD8.out (Keep.alloc (Keep.refl NoF _) _) hgr9; have f4 := free_of_heap hfree9 4; have c4 := cell_of_heap hfree9 4; simp [recCells] at c4; have HO9 := Lib.hid hown9; have HG9 : Hid (World.grownBy (World.alloc w8 _) w9 v.ownBlock) := hgr9; have HF9 : Hid ((Value.slice ao9 (QS.length + 1) cp9).ownBlock = v.ownBlock ∨ (Value.slice ao9 (QS.length + 1) cp9).ownBlock = some (World.alloc w8 _).heap.size) := hfr9; clear hown9 hgr9 hfr9 hfree9)
            | (go_simp; go_at_call 85; refine (insmall_any P g _ _ HDd.out.rd).mono ?_; rintro e w8 ⟨rfl, hR8, hk8⟩; have HD8 := Lib.hid (HDd.out.step ⟨hR8, hk8⟩); have e4b := cell_of_heap HD8.out.row 4; simp [recCells] at e4b; have e4a := fun o => (keep_alloc w8 o).cell' e4b (fun f => f); have hx8 := rdN_lt 2 (some m); clear hR8 hk8))
          all_goals
            go_wp2_with fail
            go_roundw
            case rel =>
              refine ⟨j + 1, by omega, by go_num, .slice ao9 (QS.length + 1) cp9, ?_⟩
              rw [HSN.out]
              exact HD8.out.addInt (keep_alloc _ _) HG9.out (by rw [OwnI, List.length_append, ivs, List.map_append]; exact HO9.out) HF9.out rfl
            case measure => simp [intOf]; omega
  · have HCL : Hid (hasId kk = false ∧ hasYes kk = false ∧ hasParts kk = false ∧ hasPuts kk = true) := hcl
    obtain ⟨q1, q2, q3, q4⟩ := hcl
    rw [q1, q2, q3, q4]
    clear q1 q2 q3 q4
    obtain ⟨N, hN⟩ : ∃ N, rdN 2 (st2 l) = N := ⟨_, rfl⟩
    obtain ⟨st1, hst1⟩ : ∃ s, rdS 2 (st2 l) = s := ⟨_, rfl⟩
    have hNle : N ≤ 65535 := by rw [← hN]; have := rdN_lt 2 (st2 l); omega
    have EN := Lib.hid hN; have ES1 := Lib.hid hst1
    clear hN hst1
    go_wp2_with fail
    refine (insmall_any P g _ _ HD.out.rd).mono ?_
    rintro e w6 ⟨rfl, hR6, hk6⟩
    rw [EN.out]
    rw [ES1.out] at hR6
    have HD6 := Lib.hid (HD.out.step ⟨hR6, hk6⟩)
    clear hR6 hk6
    go_wp2_with fail
    go_loopw [11] (fun nv wr => ∃ j : Nat, j ≤ N ∧ nv = .int .i64 ((N : Int) - j) ∧ ∃ v, DecI w wr Z P R g (readPuts j st1).2 kk tt 0 false (.slice none 0 0) v [] (readPuts j st1).1) (fun nv _ => (intOf nv).toNat)
    case atStart => exact ⟨0, Nat.zero_le _, by simp, _, HD6.out⟩
    case round =>
      obtain ⟨j, hj, rfl, v, hD⟩ := hrel
      have HDj := Lib.hid hD
      clear hD HD6
      obtain ⟨QS, hQS⟩ : ∃ q, (readPuts j st1).1 = q := ⟨_, rfl⟩
      obtain ⟨QT, hQT⟩ : ∃ q, (readPuts j st1).2 = q := ⟨_, rfl⟩
      have hQL : QS.length ≤ 65535 := by rw [← hQS]; have := readPuts_len j st1; omega
      have QMEM : Hid (∀ p ∈ QS, p.q.size ≤ maxLen ∧ p.b.size ≤ maxLen) := by rw [← hQS]; exact Lib.hid (readPuts_mem j st1)
      rw [hQS, hQT] at HDj
      have EQS := Lib.hid hQS; have EQT := Lib.hid hQT
      clear hQS hQT
      by_cases hjN : j = N
      · subst hjN
        have hz : (j : Int) - j = 0 := by omega
        have HFIN : Hid (readPuts j st1 = (QS, QT)) := by rw [← EQS.out, ← EQT.out]; exact Lib.hid rfl
        rw [hz]
        have sl4 := SlI.nil wr
        have HN4 : Hid (∀ j, blockOf (none : Option Addr) = some j → ¬ j = Z) := nofun
        have HB4 : Hid (∀ j, blockOf (none : Option Addr) = some j → w.heap.size ≤ j) := nofun
        obtain ⟨ae5, ce5, rfl, sl5, b5⟩ := HDj.out.own5.sl QMEM.out
        have HN5 : Hid (∀ j, blockOf ae5 = some j → ¬ j = Z) := fun j hj => by have := HDj.out.n5 j (b5 ▸ hj); have := HDj.out.pr; have := HDj.out.zp; omega
        have HB5 : Hid (∀ j, blockOf ae5 = some j → w.heap.size ≤ j) := fun j hj => by have := HDj.out.n5 j (b5 ▸ hj); have := HDj.out.pr; have := HDj.out.zp; have := HDj.out.zn; omega
        clear b5
        have hrat : RecAt wr ⟨kk, tt, 0, false, [], QS⟩ none 0 ae5 ce5 := ⟨kindR_in2 HKK.out, HTT.out, zero_in, sl4, sl5⟩
        have HRAT := Lib.hid hrat
        clear hrat sl4 sl5
        have hrow := HDj.out.row
        have hres := HDj.out.res
        have e0 := cell_of_heap hrow 0
        have e1 := cell_of_heap hrow 1
        have e2 := cell_of_heap hrow 2
        have e3 := cell_of_heap hrow 3
        have e4 := cell_of_heap hrow 4
        have e5 := cell_of_heap hrow 5
        have z0 := cell_of_heap hres 0
        have z1 := cell_of_heap hres 1
        have z2 := cell_of_heap hres 2
        have z3 := cell_of_heap hres 3
        have z4 := cell_of_heap hres 4
        have z5 := cell_of_heap hres 5
        have y0 := free_of_heap hres 0
        have y1 := free_of_heap hres 1
        have y2 := free_of_heap hres 2
        have y3 := free_of_heap hres 3
        have y4 := free_of_heap hres 4
        have y5 := free_of_heap hres 5
        simp [recCells] at e0 e1 e2 e3 e4 e5 z0 z1 z2 z3 z4 z5
        have HV : Hid (decV l = ⟨kk, tt, 0, false, [], QS⟩ ∧ decS l = QT) := by
          refine Lib.hid ⟨?_, ?_⟩ <;> simp [decV, decS, idR, idS, yesR, yesS, partsR, partsS, putsR, putsS, EK.out, ET.out, HCL.out.1, HCL.out.2.1, HCL.out.2.2.1, HCL.out.2.2.2, EN.out, ES1.out, HFIN.out]
        go_wp2_with fail
        refine (inend_any P g (QT) _ HDj.out.rd).mono ?_
        rintro e w6 ⟨rfl, rfl⟩
        obtain ⟨be, hbe⟩ : ∃ be, endOf (QT) = be := ⟨_, rfl⟩
        rw [hbe]
        have HBE := Lib.hid hbe; clear hbe
        obtain ⟨br, hbr⟩ : ∃ br, recB ⟨kk, tt, 0, false, [], QS⟩ = br := ⟨_, rfl⟩
        have HBR := Lib.hid hbr; clear hbr
        have hok : decOk l = (be && br) := by unfold decOk; rw [HV.out.1, HV.out.2, HBE.out, HBR.out]
        have HOK := Lib.hid hok; clear hok
        cases be
        · go_wp2_with fail
          (try simp only [Exit.inBlock, Exit.then])
          have h6 := set6 HDj.out.res (.int .i64 0) (.int .i64 0) (.int .i64 0) (.bool false) (.slice none 0 0) (.slice none 0 0)
          refine bodyPost_ret (results_rec rfl _ _ Z _ _ _ rfl h6.1 rfl) rfl ?_
          have hf : decOk l = false := HOK.out
          unfold DecPost
          rw [hf]
          exact ⟨none, 0, none, 0, rfl, ⟨zero_in, zero_in, zero_in, SlI.nil _, SlP.nil _⟩, HDj.out.keep.trans h6.2 (fun _ _ f => f) (fun j hj e => by have := HDj.out.zn; omega), nofun, nofun⟩
        · go_wp2_with fail
          refine (krecord_any ⟨kk, tt, 0, false, [], QS⟩ none 0 ae5 ce5 _ HRAT.out).mono ?_
          rintro e w7 ⟨rfl, hk7⟩
          rw [HBR.out]
          replace e0 := hk7.cell' e0 (fun f => f); replace e1 := hk7.cell' e1 (fun f => f); replace e2 := hk7.cell' e2 (fun f => f); replace e3 := hk7.cell' e3 (fun f => f); replace e4 := hk7.cell' e4 (fun f => f); replace e5 := hk7.cell' e5 (fun f => f)
          replace z0 := hk7.cell' z0 (fun f => f); replace z1 := hk7.cell' z1 (fun f => f); replace z2 := hk7.cell' z2 (fun f => f); replace z3 := hk7.cell' z3 (fun f => f); replace z4 := hk7.cell' z4 (fun f => f); replace z5 := hk7.cell' z5 (fun f => f)
          have hres7 : w7.heap[Z]? = some (.cells (recCells 0 0 0 false (.slice none 0 0) (.slice none 0 0)) 95 (0, 0)) := by rw [hk7.block Z (lt_of_heap HDj.out.res) (fun f => f)]; exact HDj.out.res
          clear y0 y1 y2 y3 y4 y5
          have y0 := free_of_heap hres7 0
          have y1 := free_of_heap hres7 1
          have y2 := free_of_heap hres7 2
          have y3 := free_of_heap hres7 3
          have y4 := free_of_heap hres7 4
          have y5 := free_of_heap hres7 5
          have HK7 := Lib.hid hk7; have HRES7 := Lib.hid hres7
          clear hk7 hres7
          cases br
          · go_wp2_with fail
            (try simp only [Exit.inBlock, Exit.then])
            have h6 := set6 HRES7.out (.int .i64 0) (.int .i64 0) (.int .i64 0) (.bool false) (.slice none 0 0) (.slice none 0 0)
            refine bodyPost_ret (results_rec rfl _ _ Z _ _ _ rfl h6.1 rfl) rfl ?_
            have hf : decOk l = false := HOK.out
            unfold DecPost
            rw [hf]
            exact ⟨none, 0, none, 0, rfl, ⟨zero_in, zero_in, zero_in, SlI.nil _, SlP.nil _⟩, (HDj.out.keep.trans' HK7.out).trans h6.2 (fun _ _ f => f) (fun j hj e => by have := HDj.out.zn; omega), nofun, nofun⟩
          · go_wp2_with fail
            (try simp only [Exit.inBlock, Exit.then])
            have h6 := set6 HRES7.out (.int .i64 kk) (.int .i64 tt) (.int .i64 0) (.bool false) (.slice none 0 0) (.slice ae5 (QS).length ce5)
            refine bodyPost_ret (results_rec rfl _ _ Z _ _ _ rfl h6.1 rfl) rfl ?_
            have hf : decOk l = true := HOK.out
            unfold DecPost
            rw [hf]
            simp only [if_true, HV.out.1]
            exact ⟨_, _, _, _, rfl, (HRAT.out.keep HK7.out).keepZ h6.2 HN4.out HN5.out, (HDj.out.keep.trans' HK7.out).trans h6.2 (fun _ _ f => f) (fun j hj e => by have := HDj.out.zn; omega), HB4.out, HB5.out⟩
      · have hj1 : (0 : Int) < (N : Int) - j := by omega
        cases QT with
        | none =>
          have HFIN : Hid (readPuts N st1 = (QS, none)) := by rw [readPuts_stop j N st1 EQT.out hj, ← EQS.out, ← EQT.out]; exact Lib.hid rfl
          go_wp2_with fail
          refine (inbad_any P g _ _ HDj.out.rd).mono ?_
          rintro e w7 ⟨rfl, rfl⟩
          rw [show (none : Option (List UInt8)).isNone = true from rfl]
          have sl4 := SlI.nil wr
          have HN4 : Hid (∀ j, blockOf (none : Option Addr) = some j → ¬ j = Z) := nofun
          have HB4 : Hid (∀ j, blockOf (none : Option Addr) = some j → w.heap.size ≤ j) := nofun
          obtain ⟨ae5, ce5, rfl, sl5, b5⟩ := HDj.out.own5.sl QMEM.out
          have HN5 : Hid (∀ j, blockOf ae5 = some j → ¬ j = Z) := fun j hj => by have := HDj.out.n5 j (b5 ▸ hj); have := HDj.out.pr; have := HDj.out.zp; omega
          have HB5 : Hid (∀ j, blockOf ae5 = some j → w.heap.size ≤ j) := fun j hj => by have := HDj.out.n5 j (b5 ▸ hj); have := HDj.out.pr; have := HDj.out.zp; have := HDj.out.zn; omega
          clear b5
          have hrat : RecAt wr ⟨kk, tt, 0, false, [], QS⟩ none 0 ae5 ce5 := ⟨kindR_in2 HKK.out, HTT.out, zero_in, sl4, sl5⟩
          have HRAT := Lib.hid hrat
          clear hrat sl4 sl5
          have hrow := HDj.out.row
          have hres := HDj.out.res
          have e0 := cell_of_heap hrow 0
          have e1 := cell_of_heap hrow 1
          have e2 := cell_of_heap hrow 2
          have e3 := cell_of_heap hrow 3
          have e4 := cell_of_heap hrow 4
          have e5 := cell_of_heap hrow 5
          have z0 := cell_of_heap hres 0
          have z1 := cell_of_heap hres 1
          have z2 := cell_of_heap hres 2
          have z3 := cell_of_heap hres 3
          have z4 := cell_of_heap hres 4
          have z5 := cell_of_heap hres 5
          have y0 := free_of_heap hres 0
          have y1 := free_of_heap hres 1
          have y2 := free_of_heap hres 2
          have y3 := free_of_heap hres 3
          have y4 := free_of_heap hres 4
          have y5 := free_of_heap hres 5
          simp [recCells] at e0 e1 e2 e3 e4 e5 z0 z1 z2 z3 z4 z5
          have HV : Hid (decV l = ⟨kk, tt, 0, false, [], QS⟩ ∧ decS l = none) := by
            refine Lib.hid ⟨?_, ?_⟩ <;> simp [decV, decS, idR, idS, yesR, yesS, partsR, partsS, putsR, putsS, EK.out, ET.out, HCL.out.1, HCL.out.2.1, HCL.out.2.2.1, HCL.out.2.2.2, EN.out, ES1.out, HFIN.out]
          go_wp2_with fail
          refine (inend_any P g (none) _ HDj.out.rd).mono ?_
          rintro e w6 ⟨rfl, rfl⟩
          obtain ⟨be, hbe⟩ : ∃ be, endOf (none) = be := ⟨_, rfl⟩
          rw [hbe]
          have HBE := Lib.hid hbe; clear hbe
          obtain ⟨br, hbr⟩ : ∃ br, recB ⟨kk, tt, 0, false, [], QS⟩ = br := ⟨_, rfl⟩
          have HBR := Lib.hid hbr; clear hbr
          have hok : decOk l = (be && br) := by unfold decOk; rw [HV.out.1, HV.out.2, HBE.out, HBR.out]
          have HOK := Lib.hid hok; clear hok
          cases be
          · go_wp2_with fail
            (try simp only [Exit.inBlock, Exit.then])
            have h6 := set6 HDj.out.res (.int .i64 0) (.int .i64 0) (.int .i64 0) (.bool false) (.slice none 0 0) (.slice none 0 0)
            refine bodyPost_ret (results_rec rfl _ _ Z _ _ _ rfl h6.1 rfl) rfl ?_
            have hf : decOk l = false := HOK.out
            unfold DecPost
            rw [hf]
            exact ⟨none, 0, none, 0, rfl, ⟨zero_in, zero_in, zero_in, SlI.nil _, SlP.nil _⟩, HDj.out.keep.trans h6.2 (fun _ _ f => f) (fun j hj e => by have := HDj.out.zn; omega), nofun, nofun⟩
          · go_wp2_with fail
            refine (krecord_any ⟨kk, tt, 0, false, [], QS⟩ none 0 ae5 ce5 _ HRAT.out).mono ?_
            rintro e w7 ⟨rfl, hk7⟩
            rw [HBR.out]
            replace e0 := hk7.cell' e0 (fun f => f); replace e1 := hk7.cell' e1 (fun f => f); replace e2 := hk7.cell' e2 (fun f => f); replace e3 := hk7.cell' e3 (fun f => f); replace e4 := hk7.cell' e4 (fun f => f); replace e5 := hk7.cell' e5 (fun f => f)
            replace z0 := hk7.cell' z0 (fun f => f); replace z1 := hk7.cell' z1 (fun f => f); replace z2 := hk7.cell' z2 (fun f => f); replace z3 := hk7.cell' z3 (fun f => f); replace z4 := hk7.cell' z4 (fun f => f); replace z5 := hk7.cell' z5 (fun f => f)
            have hres7 : w7.heap[Z]? = some (.cells (recCells 0 0 0 false (.slice none 0 0) (.slice none 0 0)) 95 (0, 0)) := by rw [hk7.block Z (lt_of_heap HDj.out.res) (fun f => f)]; exact HDj.out.res
            clear y0 y1 y2 y3 y4 y5
            have y0 := free_of_heap hres7 0
            have y1 := free_of_heap hres7 1
            have y2 := free_of_heap hres7 2
            have y3 := free_of_heap hres7 3
            have y4 := free_of_heap hres7 4
            have y5 := free_of_heap hres7 5
            have HK7 := Lib.hid hk7; have HRES7 := Lib.hid hres7
            clear hk7 hres7
            cases br
            · go_wp2_with fail
              (try simp only [Exit.inBlock, Exit.then])
              have h6 := set6 HRES7.out (.int .i64 0) (.int .i64 0) (.int .i64 0) (.bool false) (.slice none 0 0) (.slice none 0 0)
              refine bodyPost_ret (results_rec rfl _ _ Z _ _ _ rfl h6.1 rfl) rfl ?_
              have hf : decOk l = false := HOK.out
              unfold DecPost
              rw [hf]
              exact ⟨none, 0, none, 0, rfl, ⟨zero_in, zero_in, zero_in, SlI.nil _, SlP.nil _⟩, (HDj.out.keep.trans' HK7.out).trans h6.2 (fun _ _ f => f) (fun j hj e => by have := HDj.out.zn; omega), nofun, nofun⟩
            · go_wp2_with fail
              (try simp only [Exit.inBlock, Exit.then])
              have h6 := set6 HRES7.out (.int .i64 kk) (.int .i64 tt) (.int .i64 0) (.bool false) (.slice none 0 0) (.slice ae5 (QS).length ce5)
              refine bodyPost_ret (results_rec rfl _ _ Z _ _ _ rfl h6.1 rfl) rfl ?_
              have hf : decOk l = true := HOK.out
              unfold DecPost
              rw [hf]
              simp only [if_true, HV.out.1]
              exact ⟨_, _, _, _, rfl, (HRAT.out.keep HK7.out).keepZ h6.2 HN4.out HN5.out, (HDj.out.keep.trans' HK7.out).trans h6.2 (fun _ _ f => f) (fun j hj e => by have := HDj.out.zn; omega), HB4.out, HB5.out⟩
        | some m =>
          have hsn := readPuts_snoc j st1 m EQT.out
          rw [EQS.out] at hsn
          have HSN := Lib.hid hsn
          clear hsn
          go_wp2_with fail
          refine (inbad_any P g _ _ HDj.out.rd).mono ?_
          rintro e w7 ⟨rfl, rfl⟩
          rw [show (some m).isNone = false from rfl]
          have HDd := Lib.hid (HDj.out.still (Keep.refl NoF wr).drew)
          have e5 := cell_of_heap HDd.out.row 5
          simp [recCells] at e5
          go_wp2_with fail
          go_region_law (first
            | (refine step_app 29 29 28 (.agg #[.string ByteArray.empty, .string ByteArray.empty]) 2 32 Tryz.underlying29 infoPut rfl (by decide) (by decide) rfl rfl rfl rfl ((show World.ownsRow _ _ _ _ _ _ _ from HD9.out.own5).alloc _) (Src.two Tryz.underlying29 (heap_new _ _) 1) (by omega) ?_; intro ao9 cp9 w10 hown9 hgr9 hfr9; have hfree9 := keptR5 HD9.out (Keep.alloc (Keep.refl NoF _) _) hgr9; have f5 := free_of_heap hfree9 5; have c5 := cell_of_heap hfree9 5; simp [recCells] at c5; have HO9 := Lib.hid hown9; have HG9 : Hid (World.grownBy (World.alloc w9 _) w10 v.ownBlock) := hgr9; have HF9 : Hid ((Value.slice ao9 (QS.length + 1) cp9).ownBlock = v.ownBlock ∨ (Value.slice ao9 (QS.length + 1) cp9).ownBlock = some (World.alloc w9 _).heap.size) := hfr9; clear hown9 hgr9 hfr9 hfree9)
            | (go_simp; go_at_call 89; refine (intext_any P g _ _ HD8.out.rd).mono ?_; rintro e w9 ⟨rfl, hR9, hk9⟩; have HD9 := Lib.hid (HD8.out.step ⟨hR9, hk9⟩); have e5c := cell_of_heap HD9.out.row 5; simp [recCells] at e5c; have e5d := fun o => (keep_alloc w9 o).cell' e5c (fun f => f); clear hR9 hk9)
            | (go_simp; go_at_call 89; refine (intext_any P g _ _ HDd.out.rd).mono ?_; rintro e w8 ⟨rfl, hR8, hk8⟩; have HD8 := Lib.hid (HDd.out.step ⟨hR8, hk8⟩); have e5b := cell_of_heap HD8.out.row 5; simp [recCells] at e5b; clear hR8 hk8))
          all_goals
            go_wp2_with fail
            go_roundw
            case rel =>
              refine ⟨j + 1, by omega, by go_num, .slice ao9 (QS.length + 1) cp9, ?_⟩
              rw [HSN.out]
              exact HD9.out.addPut (keep_alloc _ _) HG9.out (by rw [OwnP, List.length_append, pvs, List.flatMap_append]; exact HO9.out) HF9.out rfl
            case measure => simp [intOf]; omega
  · have HCL : Hid (hasId kk = false ∧ hasYes kk = false ∧ hasParts kk = false ∧ hasPuts kk = false) := hcl
    obtain ⟨q1, q2, q3, q4⟩ := hcl
    rw [q1, q2, q3, q4]
    clear q1 q2 q3 q4
    have sl4 := SlI.nil w5
    have HN4 : Hid (∀ j, blockOf (none : Option Addr) = some j → ¬ j = Z) := nofun
    have HB4 : Hid (∀ j, blockOf (none : Option Addr) = some j → w.heap.size ≤ j) := nofun
    have sl5 := SlP.nil w5
    have HN5 : Hid (∀ j, blockOf (none : Option Addr) = some j → ¬ j = Z) := nofun
    have HB5 : Hid (∀ j, blockOf (none : Option Addr) = some j → w.heap.size ≤ j) := nofun
    have hrat : RecAt w5 ⟨kk, tt, 0, false, [], []⟩ none 0 none 0 := ⟨kindR_in2 HKK.out, HTT.out, zero_in, sl4, sl5⟩
    have HRAT := Lib.hid hrat
    clear hrat sl4 sl5
    have hrow := HD.out.row
    have hres := HD.out.res
    have e0 := cell_of_heap hrow 0
    have e1 := cell_of_heap hrow 1
    have e2 := cell_of_heap hrow 2
    have e3 := cell_of_heap hrow 3
    have e4 := cell_of_heap hrow 4
    have e5 := cell_of_heap hrow 5
    have z0 := cell_of_heap hres 0
    have z1 := cell_of_heap hres 1
    have z2 := cell_of_heap hres 2
    have z3 := cell_of_heap hres 3
    have z4 := cell_of_heap hres 4
    have z5 := cell_of_heap hres 5
    have y0 := free_of_heap hres 0
    have y1 := free_of_heap hres 1
    have y2 := free_of_heap hres 2
    have y3 := free_of_heap hres 3
    have y4 := free_of_heap hres 4
    have y5 := free_of_heap hres 5
    simp [recCells] at e0 e1 e2 e3 e4 e5 z0 z1 z2 z3 z4 z5
    have HV : Hid (decV l = ⟨kk, tt, 0, false, [], []⟩ ∧ decS l = st2 l) := by
      refine Lib.hid ⟨?_, ?_⟩ <;> simp [decV, decS, idR, idS, yesR, yesS, partsR, partsS, putsR, putsS, EK.out, ET.out, HCL.out.1, HCL.out.2.1, HCL.out.2.2.1, HCL.out.2.2.2]
    go_wp2_with fail
    refine (inend_any P g (st2 l) _ HD.out.rd).mono ?_
    rintro e w6 ⟨rfl, rfl⟩
    obtain ⟨be, hbe⟩ : ∃ be, endOf (st2 l) = be := ⟨_, rfl⟩
    rw [hbe]
    have HBE := Lib.hid hbe; clear hbe
    obtain ⟨br, hbr⟩ : ∃ br, recB ⟨kk, tt, 0, false, [], []⟩ = br := ⟨_, rfl⟩
    have HBR := Lib.hid hbr; clear hbr
    have hok : decOk l = (be && br) := by unfold decOk; rw [HV.out.1, HV.out.2, HBE.out, HBR.out]
    have HOK := Lib.hid hok; clear hok
    cases be
    · go_wp2_with fail
      (try simp only [Exit.inBlock, Exit.then])
      have h6 := set6 HD.out.res (.int .i64 0) (.int .i64 0) (.int .i64 0) (.bool false) (.slice none 0 0) (.slice none 0 0)
      refine bodyPost_ret (results_rec rfl _ _ Z _ _ _ rfl h6.1 rfl) rfl ?_
      have hf : decOk l = false := HOK.out
      unfold DecPost
      rw [hf]
      exact ⟨none, 0, none, 0, rfl, ⟨zero_in, zero_in, zero_in, SlI.nil _, SlP.nil _⟩, HD.out.keep.trans h6.2 (fun _ _ f => f) (fun j hj e => by have := HD.out.zn; omega), nofun, nofun⟩
    · go_wp2_with fail
      refine (krecord_any ⟨kk, tt, 0, false, [], []⟩ none 0 none 0 _ HRAT.out).mono ?_
      rintro e w7 ⟨rfl, hk7⟩
      rw [HBR.out]
      replace e0 := hk7.cell' e0 (fun f => f); replace e1 := hk7.cell' e1 (fun f => f); replace e2 := hk7.cell' e2 (fun f => f); replace e3 := hk7.cell' e3 (fun f => f); replace e4 := hk7.cell' e4 (fun f => f); replace e5 := hk7.cell' e5 (fun f => f)
      replace z0 := hk7.cell' z0 (fun f => f); replace z1 := hk7.cell' z1 (fun f => f); replace z2 := hk7.cell' z2 (fun f => f); replace z3 := hk7.cell' z3 (fun f => f); replace z4 := hk7.cell' z4 (fun f => f); replace z5 := hk7.cell' z5 (fun f => f)
      have hres7 : w7.heap[Z]? = some (.cells (recCells 0 0 0 false (.slice none 0 0) (.slice none 0 0)) 95 (0, 0)) := by rw [hk7.block Z (lt_of_heap HD.out.res) (fun f => f)]; exact HD.out.res
      clear y0 y1 y2 y3 y4 y5
      have y0 := free_of_heap hres7 0
      have y1 := free_of_heap hres7 1
      have y2 := free_of_heap hres7 2
      have y3 := free_of_heap hres7 3
      have y4 := free_of_heap hres7 4
      have y5 := free_of_heap hres7 5
      have HK7 := Lib.hid hk7; have HRES7 := Lib.hid hres7
      clear hk7 hres7
      cases br
      · go_wp2_with fail
        (try simp only [Exit.inBlock, Exit.then])
        have h6 := set6 HRES7.out (.int .i64 0) (.int .i64 0) (.int .i64 0) (.bool false) (.slice none 0 0) (.slice none 0 0)
        refine bodyPost_ret (results_rec rfl _ _ Z _ _ _ rfl h6.1 rfl) rfl ?_
        have hf : decOk l = false := HOK.out
        unfold DecPost
        rw [hf]
        exact ⟨none, 0, none, 0, rfl, ⟨zero_in, zero_in, zero_in, SlI.nil _, SlP.nil _⟩, (HD.out.keep.trans' HK7.out).trans h6.2 (fun _ _ f => f) (fun j hj e => by have := HD.out.zn; omega), nofun, nofun⟩
      · go_wp2_with fail
        (try simp only [Exit.inBlock, Exit.then])
        have h6 := set6 HRES7.out (.int .i64 kk) (.int .i64 tt) (.int .i64 0) (.bool false) (.slice none 0 0) (.slice none 0 0)
        refine bodyPost_ret (results_rec rfl _ _ Z _ _ _ rfl h6.1 rfl) rfl ?_
        have hf : decOk l = true := HOK.out
        unfold DecPost
        rw [hf]
        simp only [if_true, HV.out.1]
        exact ⟨_, _, _, _, rfl, (HRAT.out.keep HK7.out).keepZ h6.2 HN4.out HN5.out, (HD.out.keep.trans' HK7.out).trans h6.2 (fun _ _ f => f) (fun j hj e => by have := HD.out.zn; omega), HB4.out, HB5.out⟩
end Go.Proofs.YtdbgplnjppaimaaGreat
