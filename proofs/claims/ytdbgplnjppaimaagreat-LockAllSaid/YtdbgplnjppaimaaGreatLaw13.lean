/- What law13's walks share: a lock of the law's own; slices of truths, of whole numbers. -/
import Derived.Test.YtdbgplnjppaimaaGreatBegun13
import Derived.Test.YtdbgplnjppaimaaGreatLawBase
open Go Go.Proofs Go.RowKit Go.Maps Go.Sort Go.Shelf
namespace Go.Proofs.YtdbgplnjppaimaaGreat
/-- A lock made behind w. -/
def LSt (w wr : World) (p nb : Nat) (cn : Int → Int) (ps : Int → List PutV) (ag : Int → Int) : Prop := ∃ F, LockW wr F p nb cn ps ag ∧ (∀ k, F k → w.heap.size ≤ k) ∧ Keep NoF w wr
section
variable {w wr wc : World} {p nb : Nat} {cn : Int → Int} {ps : Int → List PutV} {ag : Int → Int}
theorem LSt.kp (h : LSt w wr p nb cn ps ag) : Keep NoF w wr := by obtain ⟨F, h1, h2, h3⟩ := h; exact h3
theorem LSt.keepN (h : LSt w wr p nb cn ps ag) (hk : Keep NoF wr wc) : LSt w wc p nb cn ps ag := by
  obtain ⟨F, h1, h2, h3⟩ := h
  exact ⟨F, h1.keep hk (fun _ _ f => f), h2, h3.trans' hk⟩
theorem LSt.mono (h : LSt w wr p nb cn ps ag) {nb' : Nat} (hn : nb ≤ nb') : LSt w wr p nb' cn ps ag := by
  obtain ⟨F, ⟨rl, mb, tp, tm, bk, pv, ks, ks', h1⟩, h2, h3⟩ := h
  exact ⟨F, ⟨rl, mb, tp, tm, bk, pv, ks, ks', ⟨h1.row, h1.m.mono hn, h1.km, h1.t.mono hn, h1.tk, h1.g, h1.cr, h1.fp, h1.fg, h1.lt, h1.rp, h1.rg⟩⟩, h2, h3⟩
theorem LSt.cr (h : LSt w wr p nb cn ps ag) : ∀ y, 0 ≤ cn y ∧ cn y ≤ 10 ∧ ((ps y).length : Int) ≤ cn y := by obtain ⟨F, h1, _⟩ := h; exact h1.cr
theorem LSt.step {nb' : Nat} {cn' : Int → Int} {ps' : Int → List PutV} {ag' : Int → Int} {F : Nat → Prop} {r : Value} {e : Ending} {w' : World} (hF : ∀ k, F k → w.heap.size ≤ k) (hk : Keep NoF w wr) (h : LStep wr F p nb' cn' ps' ag' r e w') : e = .returned r ∧ LSt w w' p nb' cn' ps' ag' := by
  obtain ⟨F', rfl, h1, h2, h3⟩ := h
  refine ⟨rfl, F', h1, fun k f => ?_, hk.trans h2 (fun _ _ f => f) (fun k hk f => by have := hF k f; omega)⟩
  rcases h3 k f with f | f
  · exact hF k f
  · have := hk.size; omega
theorem lst_new {w : World} {e : Ending} {w1 w' : World} (hk : Keep NoF w w1) (h : NewLock w1 e w') : ∃ p, e = .returned (.pointer (some ⟨p, 0, none⟩)) ∧ LSt w w' p 0 (fun _ => 0) (fun _ => []) (fun _ => 0) := by
  obtain ⟨p, F, rfl, h1, h2, h3⟩ := h
  exact ⟨p, rfl, F, h1, fun k f => Nat.le_trans hk.size (h3 k f), hk.trans' h2⟩
theorem lst_put (h : LSt w wr p nb cn ps ag) (x : Int) (hx : KI x) (hc : cn x < 10) (hnb : nb ≤ 100000) (q : PutV) :
    Calls Tryz.prog 14 #[.pointer (some ⟨p, 0, none⟩), .int .i64 x, .agg #[.string q.q, .string q.b]] wr fun e w' => e = .returned (.bool true) ∧ LSt w w' p (nb + 1) (cnUp cn x) (psUp ps x q) (agUp ag x) := by
  obtain ⟨F, h1, h2, h3⟩ := h
  exact (put_ok h1 x hx hc hnb q).mono fun e w' h => LSt.step h2 h3 h
theorem lst_put_full (h : LSt w wr p nb cn ps ag) (x : Int) (hx : KI x) (hc : 10 ≤ cn x) (q : PutV) :
    Calls Tryz.prog 14 #[.pointer (some ⟨p, 0, none⟩), .int .i64 x, .agg #[.string q.q, .string q.b]] wr fun e w' => e = .returned (.bool false) ∧ LSt w w' p nb cn ps ag := by
  have h0 := h
  obtain ⟨F, h1, h2, h3⟩ := h
  exact (put_full h1 x hx hc q).mono fun e w' h => ⟨h.1, h0.keepN h.2⟩
theorem lst_took (h : LSt w wr p nb cn ps ag) (x : Int) (hx : KI x) (hc : cn x < 10) (hnb : nb ≤ 100000) :
    Calls Tryz.prog 22 #[.pointer (some ⟨p, 0, none⟩), .int .i64 x] wr fun e w' => e = .returned (.bool true) ∧ LSt w w' p (nb + 1) (cnUp cn x) ps (agUp ag x) := by
  obtain ⟨F, h1, h2, h3⟩ := h
  exact (took_ok h1 x hx hc hnb).mono fun e w' h => LSt.step h2 h3 h
theorem lst_took_full (h : LSt w wr p nb cn ps ag) (x : Int) (hx : KI x) (hc : 10 ≤ cn x) :
    Calls Tryz.prog 22 #[.pointer (some ⟨p, 0, none⟩), .int .i64 x] wr fun e w' => e = .returned (.bool false) ∧ w' = wr := by
  obtain ⟨F, h1, h2, h3⟩ := h
  exact took_full h1 x hx hc
theorem lst_touch (h : LSt w wr p nb cn ps ag) (x : Int) (hx : KI x) (hc : 1 ≤ cn x) (hnb : nb ≤ 100000) :
    Calls Tryz.prog 25 #[.pointer (some ⟨p, 0, none⟩), .int .i64 x] wr fun e w' => e = .returned (.bool true) ∧ LSt w w' p (nb + 1) cn ps (agUp ag x) := by
  obtain ⟨F, h1, h2, h3⟩ := h
  exact (touch_ok h1 x hx hc hnb).mono fun e w' h => LSt.step h2 h3 h
theorem lst_N (h : LSt w wr p nb cn ps ag) (x : Int) (hx : KI x) :
    Calls Tryz.prog 17 #[.pointer (some ⟨p, 0, none⟩), .int .i64 x] wr fun e w' => e = .returned (.int .i64 (cn x)) ∧ w' = wr := by
  obtain ⟨F, h1, h2, h3⟩ := h
  exact lockN h1 x hx
theorem lst_puts (h : LSt w wr p nb cn ps ag) (x : Int) (hx : KI x) :
    Calls Tryz.prog 15 #[.pointer (some ⟨p, 0, none⟩), .int .i64 x] wr fun e w' => ∃ v, e = .returned v ∧ RowT wr.heap.size w' v (ps x) ∧ LSt w w' p nb cn ps ag ∧ Keep NoF wr w' := by
  have h0 := h
  obtain ⟨F, h1, h2, h3⟩ := h
  refine (puts_any h1 x hx).mono ?_
  rintro e w' ⟨v, rfl, h5, h6⟩
  exact ⟨v, rfl, h5, h0.keepN h6, h6⟩
theorem lst_tick (h : LSt w wr p nb cn ps ag) {K : List Int} (hs : K.Pairwise (· < ·)) (hm : ∀ y, y ∈ K ↔ 1 ≤ cn y) (hnb : nb + K.length ≤ 100000) :
    Calls Tryz.prog 28 #[.pointer (some ⟨p, 0, none⟩)] wr fun e w' => ∃ v, e = .returned v ∧ RowP 2 wr.heap.size w' v (K.filter fun x => decide (6 ≤ ag x + 1)) ∧ LSt w w' p (nb + K.length) cn ps (fun z => ag z + 1) := by
  obtain ⟨F, h1, h2, h3⟩ := h
  refine (tick_any h1 hs hm hnb).mono ?_
  rintro e w' ⟨v, rfl, h5, h6, h7⟩
  exact ⟨v, rfl, h5, F, h6, h2, h3.trans h7 (fun _ _ f => f) (fun k hk f => by have := h2 k f; omega)⟩
end
/-- Slices of truths that can be read. -/
def SlBo (w : World) (ao : Option Addr) (cp : Nat) (l : List Bool) : Prop :=
  l.length ≤ cp ∧ cp ≤ maxLen ∧ ∀ i (h : i < l.length), ∃ g off, ao = some ⟨g, off, none⟩ ∧ w.cell? ⟨g, off + i, none⟩ = some (.bool l[i])
theorem SlBo.keep {F : Nat → Prop} {w w' : World} {ao : Option Addr} {cp : Nat} {l : List Bool} (h : SlBo w ao cp l) (hk : Keep F w w') (hn : ∀ a, ao = some a → ¬ F a.block) : SlBo w' ao cp l := by
  refine ⟨h.1, h.2.1, fun i hi => ?_⟩
  obtain ⟨g, off, rfl, hc⟩ := h.2.2 i hi
  exact ⟨g, off, rfl, hk.cell' hc (hn ⟨g, off, none⟩ rfl)⟩
theorem open_bools {H : Type} {enc : TypeId × Value → H} {W : World} {a : Option Addr} {len cap : Nat} {d : DataW H} {p : List MemPlace}
    (h : DataW.Trod enc Tryz.prog W 0 (fun _ => true) true 41 (.slice a len cap) d p) : ∃ l : List Bool, l.length = len ∧ SlBo W a cap l := by
  obtain ⟨n, h⟩ := h
  rcases Deep.open_slice1 Tryz.underlying41 (by kernel_rfl) h with ⟨hcs, _⟩ | ⟨x, l', c', m, k, V, D, Pl, hcs, _, hl, hm, hmm, _, hx⟩
  · simp [Value.cells] at hcs
    obtain ⟨rfl, rfl, rfl⟩ := hcs
    exact ⟨[], rfl, Nat.le_refl _, by decide, by simp⟩
  · simp [Value.cells] at hcs
    obtain ⟨rfl, rfl, rfl⟩ := hcs
    simp only [if_true] at hmm
    subst hmm
    obtain ⟨z, hz⟩ := Deep.choose_lt (α := Bool) (n := len) (p := fun i y => W.cell? (x.add i) = some (.bool y)) (fun i hi => by
      obtain ⟨h1, h2⟩ := hx i (by omega)
      obtain ⟨n0, e0, _⟩ := DataW.trod_bool Tryz.underlying4 h2
      simp at e0
      rw [e0] at h1
      exact ⟨n0, h1⟩)
    refine ⟨(List.range len).map z, by simp, by simp; exact hl, hm, fun i hi => ?_⟩
    simp at hi
    have hpl := plain_addr (hz 0 (by omega))
    refine ⟨x.block, x.off, by rw [hpl], ?_⟩
    rw [← addr_plain hpl, hz i hi]
    simp
end Go.Proofs.YtdbgplnjppaimaaGreat
