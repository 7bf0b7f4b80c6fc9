/- LockAll's state: a lock of the law's own, and beside it the law's own row, whose elements have rows of their own. -/
import Derived.Test.YtdbgplnjppaimaaGreatLaw13o
import Derived.Test.YtdbgplnjppaimaaGreatLaw8
open Go Go.Proofs Go.RowKit Go.Maps Go.Sort Go.Shelf
namespace Go.Proofs.YtdbgplnjppaimaaGreat
inductive RG where
  | o | r | g (y : Int)
structure GV where
  tid : Int
  s : Option Addr × Nat × Nat
  n : Int
  age : Int
def sVal (s : Option Addr × Nat × Nat) : Value := .slice s.1 s.2.1 s.2.2
def gC (a : GV) : List Value := [.int .i64 a.tid, sVal a.s, .int .i64 a.n, .int .i64 a.age]
theorem gC_len (a : GV) : (gC a).length = 4 := rfl
theorem gC_one (a : GV) : ∀ u ∈ gC a, u.oneCell' = true := by
  intro u hu
  simp only [gC, List.mem_cons, List.not_mem_nil, or_false] at hu
  rcases hu with rfl | rfl | rfl | rfl <;> rfl
theorem infoG : (Tryz.prog.info? 53).map (fun i => (i.zero, i.size, i.bytes)) = some (some (.agg #[.int .i64 0, .slice none 0 0, .int .i64 0, .int .i64 0]), 4, 48) := by kernel_rfl
def gv (sp : Int → Option Addr × Nat × Nat) (cn ag : Int → Int) (y : Int) : GV := ⟨y, sp y, cn y, ag y⟩
structure GR (B : Nat) (wr : World) (G : Nat → Prop) (rl : Nat → RG) (K : List Int) (sp : Int → Option Addr × Nat × Nat) (ps : Int → List PutV) (L : List GV) (v : Value) : Prop where
  r : ∃ ao cp, v = .slice ao L.length cp ∧ wr.ownsRow 0 53 4 v L.length (L.flatMap gC)
  rr : ∀ k, v.ownBlock = some k → G k ∧ rl k = .r
  g : ∀ y ∈ K, OwnP wr (sVal (sp y)) (ps y) ∧ ∀ k, (sVal (sp y)).ownBlock = some k → G k ∧ rl k = .g y
  lo : ∀ k, G k → B ≤ k ∧ k < wr.heap.size
theorem GR.keep {B : Nat} {wr wc : World} {G H : Nat → Prop} {rl : Nat → RG} {K : List Int} {sp : Int → Option Addr × Nat × Nat} {ps : Int → List PutV} {L : List GV} {v : Value} (h : GR B wr G rl K sp ps L v) (hk : Keep H wr wc) (hH : ∀ k, G k → ¬ H k) : GR B wc G rl K sp ps L v := by
  obtain ⟨ao, cp, e, h1⟩ := h.r
  exact ⟨⟨ao, cp, e, row_keep h1 hk (fun g hg => hH g (h.rr g hg).1)⟩, h.rr, fun y hy => ⟨(h.g y hy).1.keep hk (fun k hk2 => hH k ((h.g y hy).2 k hk2).1), (h.g y hy).2⟩, fun k hk2 => ⟨(h.lo k hk2).1, Nat.lt_of_lt_of_le (h.lo k hk2).2 hk.size⟩⟩
/-- The whole. -/
def LA (D : Nat → Prop) (w wr : World) (p nb : Nat) (cn : Int → Int) (ps : Int → List PutV) (ag : Int → Int) (K : List Int) (sp : Int → Option Addr × Nat × Nat) (p2 : Int → List PutV) (L : List GV) (v : Value) : Prop :=
  ∃ F G rl, LockW wr F p nb cn ps ag ∧ (∀ k, F k → w.heap.size ≤ k ∧ ¬ G k) ∧ GR w.heap.size wr G rl K sp p2 L v ∧ Keep NoF w wr ∧ ∀ k, D k → ¬ F k ∧ ¬ G k ∧ w.heap.size ≤ k ∧ k < wr.heap.size
/-- The blocks of D are as they were. -/
def KD (D : Nat → Prop) (a b : World) : Prop := ∀ k, D k → b.heap[k]? = a.heap[k]?
section
variable {D : Nat → Prop} {w wr wc : World} {p nb : Nat} {cn : Int → Int} {ps p2 : Int → List PutV} {ag : Int → Int} {K : List Int} {sp : Int → Option Addr × Nat × Nat} {L : List GV} {v : Value}
theorem LA.kp (h : LA D w wr p nb cn ps ag K sp p2 L v) : Keep NoF w wr := by obtain ⟨F, G, rl, h1, h2, h3, h4, hD⟩ := h; exact h4
theorem LA.cr (h : LA D w wr p nb cn ps ag K sp p2 L v) : ∀ y, 0 ≤ cn y ∧ cn y ≤ 10 ∧ ((ps y).length : Int) ≤ cn y := by obtain ⟨F, G, rl, h1, h2, h3, h4, hD⟩ := h; exact h1.cr
theorem LA.keepN (h : LA D w wr p nb cn ps ag K sp p2 L v) (hk : Keep NoF wr wc) : LA D w wc p nb cn ps ag K sp p2 L v := by
  obtain ⟨F, G, rl, h1, h2, h3, h4, hD⟩ := h
  exact ⟨F, G, rl, h1.keep hk (fun _ _ f => f), h2, h3.keep hk (fun _ _ f => f), h4.trans' hk, fun k hk2 => ⟨(hD k hk2).1, (hD k hk2).2.1, (hD k hk2).2.2.1, Nat.lt_of_lt_of_le (hD k hk2).2.2.2 hk.size⟩⟩
theorem LA.slice (h : LA D w wr p nb cn ps ag K sp p2 L v) {n : Nat} (hn : L.length = n) : ∃ ao cp, v = .slice ao n cp ∧ n ≤ cp ∧ (cp : Int) ≤ 9223372036854775807 ∧ wr.ownsRow 0 53 4 (.slice ao n cp) n (L.flatMap gC) := by
  subst hn
  obtain ⟨F, G, rl, h1, h2, h3, h4, hD⟩ := h
  obtain ⟨ao, cp, rfl, h5⟩ := h3.r
  have hc := row_cap h5
  obtain ⟨hc1, hc2⟩ := hc
  unfold maxLen at hc2
  exact ⟨ao, cp, rfl, hc1, by omega, h5⟩
theorem LA.at {ao : Option Addr} {n cp : Nat} (h : LA D w wr p nb cn ps ag K sp p2 L (.slice ao n cp)) (k : Nat) (hk : k < L.length) : ∃ g, ao = some ⟨g, 0, none⟩ ∧ g < wr.heap.size ∧ wr.cell? ⟨g, k * 4, none⟩ = some (.int .i64 L[k].tid) ∧ wr.cell? ⟨g, k * 4 + 1, none⟩ = some (sVal L[k].s) ∧
    wr.cell? ⟨g, k * 4 + 2, none⟩ = some (.int .i64 L[k].n) ∧ wr.cell? ⟨g, k * 4 + 3, none⟩ = some (.int .i64 L[k].age) := by
  obtain ⟨F, G, rl, h1, h2, h3, h4, hD⟩ := h
  obtain ⟨ao', cp', e, h5⟩ := h3.r
  cases e
  obtain ⟨g, e, hc⟩ := rowK_cell gC_len h5 rfl k hk
  exact ⟨g, e, by have := h3.rr g (by rw [e]; rfl); exact (h3.lo g this.1).2, by simpa using hc 0 _ rfl, hc 1 _ rfl, hc 2 _ rfl, hc 3 _ rfl⟩
/-- A number of an element turned. -/
theorem LA.store {ao : Option Addr} {n cp : Nat} (h : LA D w wr p nb cn ps ag K sp p2 L (.slice ao n cp)) (k j : Nat) (hk : k < L.length) (hj : j < 4) (a' : GV) (u : Value) (ha : gC a' = (gC L[k]).set j u) :
    ∃ g, ao = some ⟨g, 0, none⟩ ∧ wr.frozen? ⟨g, k * 4 + j, none⟩ = false ∧ LA D w (wr.setCell ⟨g, k * 4 + j, none⟩ u) p nb cn ps ag K sp p2 (L.set k a') (.slice ao n cp) ∧ KD D wr (wr.setCell ⟨g, k * 4 + j, none⟩ u) ∧ Keep (fun q => q = g) wr (wr.setCell ⟨g, k * 4 + j, none⟩ u) := by
  obtain ⟨F, G, rl, h1, h2, h3, h4, hD⟩ := h
  obtain ⟨ao', cp', e, h5⟩ := h3.r
  cases e
  have hlen := flat_length gC_len L
  obtain ⟨g, rfl, f1, f2, f3⟩ := rowRaw_set h5 (k * 4 + j) (by rw [hlen]; omega) u
  rw [flat_set gC_len hj L k hk ha] at f2
  have hg := h3.rr g rfl
  refine ⟨g, rfl, f1, ⟨F, G, rl, h1.keep f3 (fun q hq e => by subst e; exact (h2 _ hq).2 hg.1), h2, ⟨⟨_, _, by rw [List.length_set], by rw [List.length_set]; exact f2⟩, h3.rr, fun y hy => ⟨(h3.g y hy).1.keep f3 (fun q hq e => by have h6 := ((h3.g y hy).2 q hq).2; rw [e, hg.2] at h6; cases h6), (h3.g y hy).2⟩, fun q hq => ⟨(h3.lo q hq).1, Nat.lt_of_lt_of_le (h3.lo q hq).2 f3.size⟩⟩, h4.trans f3 (fun _ _ f => f) (fun q hq e => by have := (h3.lo g hg.1).1; omega), fun q hq => ⟨(hD q hq).1, (hD q hq).2.1, (hD q hq).2.2.1, Nat.lt_of_lt_of_le (hD q hq).2.2.2 f3.size⟩⟩, fun q hq => f3.block q (hD q hq).2.2.2 (fun e => by subst e; exact (hD _ hq).2.1 hg.1), f3⟩
/-- The row laid anew (one more, one less; none of the others' rows touched). -/
theorem LA.new (h : LA D w wr p nb cn ps ag K sp p2 L v) (hk : Keep NoF wr wc) {K' : List Int} {sp' : Int → Option Addr × Nat × Nat} {p2' : Int → List PutV} {L' : List GV} {ao : Option Addr} {n cp : Nat} (hn : L'.length = n) (hr : wc.ownsRow 0 53 4 (.slice ao n cp) n (L'.flatMap gC))
    (hf : ∀ k, (Value.slice ao n cp).ownBlock = some k → wr.heap.size ≤ k) (hK : ∀ y ∈ K', (y ∈ K ∧ sp' y = sp y ∧ p2' y = p2 y) ∨ (sp' y = (none, 0, 0) ∧ p2' y = [])) : LA D w wc p nb cn ps ag K' sp' p2' L' (.slice ao n cp) := by
  subst hn
  obtain ⟨F, G, rl, h1, h2, h3, h4, hD⟩ := h
  have hlt := row_lt hr
  refine ⟨F, fun k => G k ∨ (wr.heap.size ≤ k ∧ k < wc.heap.size), fun k => if k < wr.heap.size then rl k else .r, h1.keep hk (fun _ _ f => f), fun k hk2 => ⟨(h2 k hk2).1, fun e => e.elim (h2 k hk2).2 (fun e => by have := h1.lt k hk2; omega)⟩, ⟨⟨ao, cp, rfl, hr⟩, fun k hk2 => ⟨.inr ⟨hf k hk2, hlt k hk2⟩, if_neg (by have := hf k hk2; omega)⟩, fun y hy => ?_, fun k hk2 => ?_⟩, h4.trans' hk, fun k hk2 => ⟨(hD k hk2).1, fun e => e.elim (hD k hk2).2.1 (fun e => by have := (hD k hk2).2.2.2; omega), (hD k hk2).2.2.1, Nat.lt_of_lt_of_le (hD k hk2).2.2.2 hk.size⟩⟩
  · rcases hK y hy with ⟨e1, e2, e3⟩ | ⟨e2, e3⟩
    · rw [e2, e3]
      exact ⟨(h3.g y e1).1.keep hk (fun _ _ f => f), fun k hk2 => ⟨.inl ((h3.g y e1).2 k hk2).1, by rw [if_pos (h3.lo k ((h3.g y e1).2 k hk2).1).2]; exact ((h3.g y e1).2 k hk2).2⟩⟩
    · rw [e2, e3]
      exact ⟨OwnP.nil _, nofun⟩
  · rcases hk2 with f | f
    · exact ⟨(h3.lo k f).1, Nat.lt_of_lt_of_le (h3.lo k f).2 hk.size⟩
    · exact ⟨Nat.le_trans h4.size f.1, f.2⟩
/-- Blocks that are made behind it stand beside it. -/
theorem LA.guard (h : LA NoF w wr p nb cn ps ag K sp p2 L v) (hk : Keep NoF wr wc) (hd : ∀ k, D k → wr.heap.size ≤ k ∧ k < wc.heap.size) : LA D w wc p nb cn ps ag K sp p2 L v := by
  obtain ⟨F, G, rl, h1, h2, h3, h4, _⟩ := h
  exact ⟨F, G, rl, h1.keep hk (fun _ _ f => f), h2, h3.keep hk (fun _ _ f => f), h4.trans' hk, fun k hk2 => ⟨fun f => by have := h1.lt k f; have := (hd k hk2).1; omega, fun f => by have := (h3.lo k f).2; have := (hd k hk2).1; omega, Nat.le_trans h4.size (hd k hk2).1, (hd k hk2).2⟩⟩
theorem LA.free (h : LA D w wr p nb cn ps ag K sp p2 L v) : LA NoF w wr p nb cn ps ag K sp p2 L v := by
  obtain ⟨F, G, rl, h1, h2, h3, h4, _⟩ := h
  exact ⟨F, G, rl, h1, h2, h3, h4, fun _ f => f.elim⟩
theorem LA.apart {ao : Option Addr} {n cp : Nat} (h : LA D w wr p nb cn ps ag K sp p2 L (.slice ao n cp)) (g : Nat) (hg : (Value.slice ao n cp).ownBlock = some g) : ¬ D g := by
  obtain ⟨F, G, rl, h1, h2, h3, h4, hD⟩ := h
  exact fun e => (hD g e).2.1 (h3.rr g hg).1
theorem LA.apartY (h : LA D w wr p nb cn ps ag K sp p2 L v) {y : Int} (hy : y ∈ K) (g : Nat) (hg : (sVal (sp y)).ownBlock = some g) : ¬ D g := by
  obtain ⟨F, G, rl, h1, h2, h3, h4, hD⟩ := h
  exact fun e => (hD g e).2.1 ((h3.g y hy).2 g hg).1
/-- Nothing but blocks of D has changed. -/
theorem LA.other (h : LA D w wr p nb cn ps ag K sp p2 L v) {H D' : Nat → Prop} (hk : Keep H wr wc) (hH : ∀ k, k < wr.heap.size → H k → D k) (hD' : ∀ k, D' k → (D k ∨ wr.heap.size ≤ k) ∧ k < wc.heap.size) : LA D' w wc p nb cn ps ag K sp p2 L v := by
  obtain ⟨F, G, rl, h1, h2, h3, h4, hD⟩ := h
  refine ⟨F, G, rl, h1.keep (hk.mono hH) (fun k hk2 e => (hD k e).1 hk2), h2, h3.keep (hk.mono hH) (fun k hk2 e => (hD k e).2.1 hk2), h4.trans hk (fun _ _ f => f) (fun k hk2 f => ?_), fun k hk2 => ?_⟩
  · have := (hD k (hH k (Nat.lt_of_lt_of_le hk2 h4.size) f)).2.2.1; omega
  · rcases (hD' k hk2).1 with f | f
    · exact ⟨(hD k f).1, (hD k f).2.1, (hD k f).2.2.1, (hD' k hk2).2⟩
    · exact ⟨fun e => by have := h1.lt k e; omega, fun e => by have := (h3.lo k e).2; omega, Nat.le_trans h4.size f, (hD' k hk2).2⟩
/-- An element's own row. -/
theorem LA.own (h : LA D w wr p nb cn ps ag K sp p2 L v) {y : Int} (hy : y ∈ K) : OwnP wr (sVal (sp y)) (p2 y) := by
  obtain ⟨F, G, rl, h1, h2, h3, h4, hD⟩ := h
  exact (h3.g y hy).1
/-- One message more behind an element's own row. -/
theorem LA.more {ao : Option Addr} {n cp : Nat} (h : LA D w wr p nb cn ps ag K sp p2 L (.slice ao n cp)) {x : Int} (hx : x ∈ K) {ws : World} (hs : Keep NoF wr ws) (hgr : ws.grownBy wc (sVal (sp x)).ownBlock) {bo : Option Addr} {m cq : Nat} {q : PutV}
    (hO : OwnP wc (.slice bo m cq) (p2 x ++ [q])) (hfr : (Value.slice bo m cq).ownBlock = (sVal (sp x)).ownBlock ∨ (Value.slice bo m cq).ownBlock = some ws.heap.size) (k : Nat) (hk : k < L.length) :
    ∃ g, ao = some ⟨g, 0, none⟩ ∧ wc.frozen? ⟨g, k * 4 + 1, none⟩ = false ∧ wc.cell? ⟨g, k * 4 + 1, none⟩ = some (sVal L[k].s) ∧
      LA D w (wc.setCell ⟨g, k * 4 + 1, none⟩ (.slice bo m cq)) p nb cn ps ag K (fun y => if y = x then (bo, m, cq) else sp y) (fun y => if y = x then p2 x ++ [q] else p2 y) (L.set k ⟨L[k].tid, (bo, m, cq), L[k].n, L[k].age⟩) (.slice ao n cp) ∧ KD D wr (wc.setCell ⟨g, k * 4 + 1, none⟩ (.slice bo m cq)) ∧ KD D wr wc := by
  obtain ⟨F, G, rl, h1, h2, h3, h4, hD⟩ := h
  obtain ⟨ao', cp', e, h5⟩ := h3.r
  cases e
  have hkw : Keep (fun k => (sVal (sp x)).ownBlock = some k) wr wc := (hs.mono (fun _ _ f => f.elim)).grown hgr (fun k _ e => e)
  have hne : ∀ q, G q → rl q ≠ .g x → ¬ (sVal (sp x)).ownBlock = some q := fun q _ e1 e2 => e1 ((h3.g x hx).2 q e2).2
  have h6 := row_keep h5 hkw (fun q hq => hne q (h3.rr q hq).1 (by rw [(h3.rr q hq).2]; intro e; cases e))
  have hlen := flat_length gC_len L
  obtain ⟨g, rfl, f1, f2, f3⟩ := rowRaw_set h6 (k * 4 + 1) (by rw [hlen]; omega) (.slice bo m cq)
  rw [flat_set gC_len (by omega) L k hk (a' := ⟨L[k].tid, (bo, m, cq), L[k].n, L[k].age⟩) rfl] at f2
  obtain ⟨g2, e2, hc⟩ := rowK_cell gC_len h6 rfl k hk
  cases e2
  have hg := h3.rr g rfl
  have hgl := (h3.lo g hg.1)
  have hss := hs.size
  have hls := row_lt (show wc.ownsRow _ _ _ _ _ _ from hO)
  refine ⟨g, rfl, f1, hc 1 _ rfl, ⟨F, fun q => G q ∨ (wr.heap.size ≤ q ∧ q < wc.heap.size), fun q => if q < wr.heap.size then rl q else .g x, ?_, ?_, ⟨⟨_, _, by rw [List.length_set], by rw [List.length_set]; exact f2⟩, ?_, ?_, ?_⟩, ?_, ?_⟩, ?_, fun q hq => hkw.block q (hD q hq).2.2.2 (fun e => (hD q hq).2.1 ((h3.g x hx).2 q e).1)⟩
  · refine (h1.keep hkw (fun q hq e => (h2 q hq).2 ((h3.g x hx).2 q e).1)).keep f3 (fun q hq e => ?_)
    subst e
    exact (h2 _ hq).2 hg.1
  · exact fun q hq => ⟨(h2 q hq).1, fun e => e.elim (h2 q hq).2 (fun e => by have := h1.lt q hq; omega)⟩
  · exact fun q hq => ⟨.inl (h3.rr q hq).1, by rw [if_pos (h3.lo q (h3.rr q hq).1).2]; exact (h3.rr q hq).2⟩
  · intro y hy
    by_cases e : y = x
    · simp only [e, if_true]
      have hfb : ∀ q, (Value.slice bo m cq).ownBlock = some q → (G q ∧ rl q = .g x ∧ q < wr.heap.size) ∨ (wr.heap.size ≤ q) := fun q hq => by
        rcases hfr with f | f
        · rw [f] at hq
          have := (h3.g x hx).2 q hq
          exact .inl ⟨this.1, this.2, (h3.lo q this.1).2⟩
        · rw [f] at hq
          injection hq with hq
          exact .inr (by omega)
      refine ⟨OwnP.keep hO f3 (fun q hq e2 => ?_), fun q hq => ?_⟩
      · subst e2
        rcases hfb q hq with f | f
        · rw [hg.2] at f; cases f.2.1
        · omega
      · rcases hfb q hq with f | f
        · exact ⟨.inl f.1, by rw [if_pos f.2.2]; exact f.2.1⟩
        · exact ⟨.inr ⟨f, hls q hq⟩, if_neg (by omega)⟩
    · simp only [e, if_false]
      refine ⟨((h3.g y hy).1.keep hkw (fun q hq => ?_)).keep f3 (fun q hq e2 => ?_), fun q hq => ⟨.inl ((h3.g y hy).2 q hq).1, by rw [if_pos (h3.lo q ((h3.g y hy).2 q hq).1).2]; exact ((h3.g y hy).2 q hq).2⟩⟩
      · have h7 := (h3.g y hy).2 q hq
        exact hne q h7.1 (by rw [h7.2]; intro e3; injection e3 with e3; exact e e3)
      · have h7 := (h3.g y hy).2 q hq
        rw [e2, hg.2] at h7; cases h7.2
  · intro q hq
    have := f3.size
    rcases hq with f | f
    · exact ⟨(h3.lo q f).1, by have := (h3.lo q f).2; have := hkw.size; omega⟩
    · exact ⟨Nat.le_trans h4.size f.1, by omega⟩
  · refine (h4.trans hkw (fun _ _ f => f) (fun q hq e => ?_)).trans f3 (fun _ _ f => f) (fun q hq e => ?_)
    · have := (h3.lo q ((h3.g x hx).2 q e).1).1; omega
    · subst e; omega
  · exact fun q hq => ⟨(hD q hq).1, fun e => e.elim (hD q hq).2.1 (fun e => by have := (hD q hq).2.2.2; omega), (hD q hq).2.2.1, by have := (hD q hq).2.2.2; have := hkw.size; have := f3.size; omega⟩
  · intro q hq
    have h7 := hD q hq
    rw [f3.block q (by have := hkw.size; omega) (fun e => by subst e; exact h7.2.1 hg.1), hkw.block q h7.2.2.2 (fun e => h7.2.1 ((h3.g x hx).2 q e).1)]
theorem LA.step {w' : World} {nb' : Nat} {cn' : Int → Int} {ps' : Int → List PutV} {ag' : Int → Int} {F F' G : Nat → Prop} {rl : Nat → RG} (_h1 : LockW wr F p nb cn ps ag) (h2 : ∀ k, F k → w.heap.size ≤ k ∧ ¬ G k) (h3 : GR w.heap.size wr G rl K sp p2 L v) (h4 : Keep NoF w wr) (hD : ∀ k, D k → ¬ F k ∧ ¬ G k ∧ w.heap.size ≤ k ∧ k < wr.heap.size)
    (h5 : LockW w' F' p nb' cn' ps' ag') (h6 : Keep F wr w') (h7 : ∀ k, F' k → F k ∨ wr.heap.size ≤ k) : LA D w w' p nb' cn' ps' ag' K sp p2 L v ∧ KD D wr w' :=
  ⟨⟨F', G, rl, h5, fun k hk => (h7 k hk).elim (fun f => h2 k f) (fun f => ⟨by have := h4.size; omega, fun e => by have := (h3.lo k e).2; omega⟩), h3.keep h6 (fun k hk e => (h2 k e).2 hk), h4.trans h6 (fun _ _ f => f) (fun k hk e => by have := (h2 k e).1; omega), fun k hk => ⟨fun f => (h7 k f).elim (hD k hk).1 (fun f => by have := (hD k hk).2.2.2; omega), (hD k hk).2.1, (hD k hk).2.2.1, Nat.lt_of_lt_of_le (hD k hk).2.2.2 h6.size⟩⟩, fun k hk => h6.block k (hD k hk).2.2.2 (hD k hk).1⟩
theorem la_put (h : LA D w wr p nb cn ps ag K sp p2 L v) (x : Int) (hx : KI x) (hc : cn x < 10) (hnb : nb ≤ 100000) (q : PutV) :
    Calls Tryz.prog 14 #[.pointer (some ⟨p, 0, none⟩), .int .i64 x, .agg #[.string q.q, .string q.b]] wr fun e w' => e = .returned (.bool true) ∧ LA D w w' p (nb + 1) (cnUp cn x) (psUp ps x q) (agUp ag x) K sp p2 L v ∧ KD D wr w' := by
  obtain ⟨F, G, rl, h1, h2, h3, h4, hD⟩ := h
  refine (put_ok h1 x hx hc hnb q).mono ?_
  rintro e w' ⟨F', rfl, h5, h6, h7⟩
  exact ⟨rfl, LA.step h1 h2 h3 h4 hD h5 h6 h7⟩
theorem la_put_full (h : LA D w wr p nb cn ps ag K sp p2 L v) (x : Int) (hx : KI x) (hc : 10 ≤ cn x) (q : PutV) :
    Calls Tryz.prog 14 #[.pointer (some ⟨p, 0, none⟩), .int .i64 x, .agg #[.string q.q, .string q.b]] wr fun e w' => e = .returned (.bool false) ∧ LA D w w' p nb cn ps ag K sp p2 L v ∧ KD D wr w' := by
  have h0 := h
  obtain ⟨F, G, rl, h1, h2, h3, h4, hD⟩ := h
  exact (put_full h1 x hx hc q).mono fun e w' h => ⟨h.1, h0.keepN h.2, fun k hk => h.2.block k (hD k hk).2.2.2 (fun f => f)⟩
theorem la_took (h : LA D w wr p nb cn ps ag K sp p2 L v) (x : Int) (hx : KI x) (hc : cn x < 10) (hnb : nb ≤ 100000) :
    Calls Tryz.prog 22 #[.pointer (some ⟨p, 0, none⟩), .int .i64 x] wr fun e w' => e = .returned (.bool true) ∧ LA D w w' p (nb + 1) (cnUp cn x) ps (agUp ag x) K sp p2 L v ∧ KD D wr w' := by
  obtain ⟨F, G, rl, h1, h2, h3, h4, hD⟩ := h
  refine (took_ok h1 x hx hc hnb).mono ?_
  rintro e w' ⟨F', rfl, h5, h6, h7⟩
  exact ⟨rfl, LA.step h1 h2 h3 h4 hD h5 h6 h7⟩
theorem la_took_full (h : LA D w wr p nb cn ps ag K sp p2 L v) (x : Int) (hx : KI x) (hc : 10 ≤ cn x) :
    Calls Tryz.prog 22 #[.pointer (some ⟨p, 0, none⟩), .int .i64 x] wr fun e w' => e = .returned (.bool false) ∧ LA D w w' p nb cn ps ag K sp p2 L v ∧ KD D wr w' := by
  have h0 := h
  obtain ⟨F, G, rl, h1, h2, h3, h4, hD⟩ := h
  exact (took_full h1 x hx hc).mono fun e w' h => ⟨h.1, by rw [h.2]; exact h0, by rw [h.2]; exact fun _ _ => rfl⟩
theorem la_touch (h : LA D w wr p nb cn ps ag K sp p2 L v) (x : Int) (hx : KI x) (hc : 1 ≤ cn x) (hnb : nb ≤ 100000) :
    Calls Tryz.prog 25 #[.pointer (some ⟨p, 0, none⟩), .int .i64 x] wr fun e w' => e = .returned (.bool true) ∧ LA D w w' p (nb + 1) cn ps (agUp ag x) K sp p2 L v ∧ KD D wr w' := by
  obtain ⟨F, G, rl, h1, h2, h3, h4, hD⟩ := h
  refine (touch_ok h1 x hx hc hnb).mono ?_
  rintro e w' ⟨F', rfl, h5, h6, h7⟩
  exact ⟨rfl, LA.step h1 h2 h3 h4 hD h5 h6 h7⟩
theorem la_touch_no (h : LA D w wr p nb cn ps ag K sp p2 L v) (x : Int) (hx : KI x) (hc : cn x = 0) :
    Calls Tryz.prog 25 #[.pointer (some ⟨p, 0, none⟩), .int .i64 x] wr fun e w' => e = .returned (.bool false) ∧ LA D w w' p nb cn ps ag K sp p2 L v ∧ KD D wr w' := by
  have h0 := h
  obtain ⟨F, G, rl, h1, h2, h3, h4, hD⟩ := h
  exact (touch_no h1 x hx hc).mono fun e w' h => ⟨h.1, by rw [h.2]; exact h0, by rw [h.2]; exact fun _ _ => rfl⟩
theorem la_drop (h : LA D w wr p nb cn ps ag K sp p2 L v) (x : Int) (hx : KI x) (hc : 1 ≤ cn x) :
    Calls Tryz.prog 26 #[.pointer (some ⟨p, 0, none⟩), .int .i64 x] wr fun e w' => e = .returned (.bool true) ∧ LA D w w' p nb (cnOff cn x) (psOff ps x) ag K sp p2 L v ∧ KD D wr w' := by
  obtain ⟨F, G, rl, h1, h2, h3, h4, hD⟩ := h
  refine (drop_ok h1 x hx hc).mono ?_
  rintro e w' ⟨F', rfl, h5, h6, h7⟩
  exact ⟨rfl, LA.step h1 h2 h3 h4 hD h5 h6 h7⟩
theorem la_drop_no (h : LA D w wr p nb cn ps ag K sp p2 L v) (x : Int) (hx : KI x) (hc : cn x = 0) :
    Calls Tryz.prog 26 #[.pointer (some ⟨p, 0, none⟩), .int .i64 x] wr fun e w' => e = .returned (.bool false) ∧ LA D w w' p nb cn ps ag K sp p2 L v ∧ KD D wr w' := by
  have h0 := h
  obtain ⟨F, G, rl, h1, h2, h3, h4, hD⟩ := h
  exact (drop_no h1 x hx hc).mono fun e w' h => ⟨h.1, by rw [h.2]; exact h0, by rw [h.2]; exact fun _ _ => rfl⟩
theorem la_tick (h : LA D w wr p nb cn ps ag K sp p2 L v) {K0 : List Int} (hs : K0.Pairwise (· < ·)) (hm : ∀ y, y ∈ K0 ↔ 1 ≤ cn y) (hnb : nb + K0.length ≤ 100000) :
    Calls Tryz.prog 28 #[.pointer (some ⟨p, 0, none⟩)] wr fun e w' => ∃ u, e = .returned u ∧ RowP 2 wr.heap.size w' u (K0.filter fun x => decide (6 ≤ ag x + 1)) ∧ LA D w w' p (nb + K0.length) cn ps (fun z => ag z + 1) K sp p2 L v ∧ KD D wr w' ∧ wr.heap.size ≤ w'.heap.size := by
  obtain ⟨F, G, rl, h1, h2, h3, h4, hD⟩ := h
  refine (tick_any h1 hs hm hnb).mono ?_
  rintro e w' ⟨u, rfl, h5, h6, h7⟩
  obtain ⟨h8, h9⟩ := LA.step h1 h2 h3 h4 hD h6 h7 (fun k hk => .inl hk)
  exact ⟨u, rfl, h5, h8, h9, h7.size⟩
theorem la_N (h : LA D w wr p nb cn ps ag K sp p2 L v) (x : Int) (hx : KI x) : Calls Tryz.prog 17 #[.pointer (some ⟨p, 0, none⟩), .int .i64 x] wr fun e w' => e = .returned (.int .i64 (cn x)) ∧ w' = wr := by
  obtain ⟨F, G, rl, h1, h2, h3, h4, hD⟩ := h
  exact lockN h1 x hx
theorem la_puts (h : LA D w wr p nb cn ps ag K sp p2 L v) (x : Int) (hx : KI x) : Calls Tryz.prog 15 #[.pointer (some ⟨p, 0, none⟩), .int .i64 x] wr fun e w' => ∃ u, e = .returned u ∧ RowT wr.heap.size w' u (ps x) ∧ Keep NoF wr w' := by
  obtain ⟨F, G, rl, h1, h2, h3, h4, hD⟩ := h
  exact puts_any h1 x hx
theorem la_tids (h : LA D w wr p nb cn ps ag K sp p2 L v) {K0 : List Int} (hs : K0.Pairwise (· < ·)) (hm : ∀ y, y ∈ K0 ↔ 1 ≤ cn y) (hnb : nb ≤ 100000) :
    Calls Tryz.prog 30 #[.pointer (some ⟨p, 0, none⟩)] wr fun e w' => ∃ u, e = .returned u ∧ RowP 2 wr.heap.size w' u K0 ∧ Keep NoF wr w' := by
  obtain ⟨F, G, rl, h1, h2, h3, h4, hD⟩ := h
  exact tids_any h1 hs hm hnb
theorem la_all (h : LA D w wr p nb cn ps ag K sp p2 L v) {K0 : List Int} (hs : K0.Pairwise (· < ·)) (hm : ∀ y, y ∈ K0 ↔ 1 ≤ cn y) (hnb : nb ≤ 100000) (hK : ∀ y ∈ K0, KI y) (hKl : K0.length ≤ 1000) :
    Calls Tryz.prog 16 #[.pointer (some ⟨p, 0, none⟩)] wr fun e w' => ∃ u, e = .returned u ∧ RowT wr.heap.size w' u (K0.flatMap ps) ∧ Keep NoF wr w' := by
  obtain ⟨F, G, rl, h1, h2, h3, h4, hD⟩ := h
  exact lall_any h1 hs hm hnb hK hKl
theorem la_new {w1 : World} (hk : Keep NoF w w1) : Calls Tryz.prog 13 #[] w1 fun e w' => ∃ p, e = .returned (.pointer (some ⟨p, 0, none⟩)) ∧ LA NoF w w' p 0 (fun _ => 0) (fun _ => []) (fun _ => 0) [] (fun _ => (none, 0, 0)) (fun _ => []) [] (.slice none 0 0) := by
  refine (newLock_any w1).mono ?_
  rintro e w' ⟨p, F, rfl, h1, h2, h3⟩
  exact ⟨p, rfl, F, fun _ => False, fun _ => .o, h1, fun k hk2 => ⟨Nat.le_trans hk.size (h3 k hk2), fun f => f⟩, ⟨⟨none, 0, rfl, World.ownsRow_nil _ _ _ _⟩, nofun, nofun, nofun⟩, hk.trans' h2, nofun⟩
end
theorem cutT_le (a b : ByteArray) : (cutT a 8).size ≤ maxLen ∧ (cutT b 60).size ≤ maxLen := by
  have h1 := cutT_size a 8; have h2 := cutT_size b 60; unfold maxLen; omega
theorem ins_gv {K : List Int} {sp : Int → Option Addr × Nat × Nat} {cn ag : Int → Int} {x : Int} {k : Nat} (hx : x ∉ K) (hc : cn x = 0) : (K.map (gv sp cn ag)).take k ++ ⟨x, (none, 0, 0), 0, 0⟩ :: (K.map (gv sp cn ag)).drop k = (insAt K k x).map (gv (fun y => if y = x then (none, 0, 0) else sp y) cn (agUp ag x)) := by
  have h1 : ∀ l : List Int, (∀ y ∈ l, y ∈ K) → l.map (gv sp cn ag) = l.map (gv (fun y => if y = x then (none, 0, 0) else sp y) cn (agUp ag x)) := fun l hl => List.map_congr_left fun y hy => by
    have : y ≠ x := fun e => hx (e ▸ hl y hy)
    unfold gv agUp; simp [this]
  unfold insAt
  rw [← List.map_take, ← List.map_drop, h1 _ (fun y hy => List.mem_of_mem_take hy), h1 _ (fun y hy => List.mem_of_mem_drop hy), List.map_append, List.map_cons]
  congr 2
  unfold gv agUp; simp [hc]
end Go.Proofs.YtdbgplnjppaimaaGreat
