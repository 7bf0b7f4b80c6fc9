/- What law13's walks share: sessions of the law's own. -/
import Derived.Test.YtdbgplnjppaimaaGreatLaw13
open Go Go.Proofs Go.RowKit Go.Maps Go.Sort Go.Shelf
namespace Go.Proofs.YtdbgplnjppaimaaGreat
/-- Sessions made behind w. -/
def SSt (w wr : World) (p mb tp tm nb : Nat) (br last : Int) (K : List Int) (td ag : Int → Int) : Prop :=
  SesR wr p mb tp tm nb br last K td ag ∧ (w.heap.size ≤ p ∧ w.heap.size ≤ mb ∧ w.heap.size ≤ tp ∧ w.heap.size ≤ tm) ∧ Keep NoF w wr
section
variable {w wr wc : World} {p mb tp tm nb : Nat} {br last : Int} {K : List Int} {td ag : Int → Int}
theorem SSt.kp (h : SSt w wr p mb tp tm nb br last K td ag) : Keep NoF w wr := h.2.2
theorem SSt.keepN (h : SSt w wr p mb tp tm nb br last K td ag) (hk : Keep NoF wr wc) : SSt w wc p mb tp tm nb br last K td ag := ⟨h.1.keepN hk, h.2.1, h.2.2.trans' hk⟩
theorem SSt.keep {H : Nat → Prop} (h : SSt w wr p mb tp tm nb br last K td ag) (hk : Keep H wr wc) (h1 : ∀ k, H k → w.heap.size ≤ k) (hH : ¬ H p ∧ ¬ H mb ∧ ¬ H tp ∧ ¬ H tm) : SSt w wc p mb tp tm nb br last K td ag := ⟨h.1.keep hk hH, h.2.1, h.2.2.trans hk (fun _ _ f => f) (fun k hk f => by have := h1 k f; omega)⟩
theorem SSt.mono (h : SSt w wr p mb tp tm nb br last K td ag) {nb' : Nat} (hn : nb ≤ nb') : SSt w wr p mb tp tm nb' br last K td ag := ⟨h.1.mono hn, h.2.1, h.2.2⟩
theorem SSt.kf (h : SSt w wr p mb tp tm nb br last K td ag) {w' : World} (hk : Keep (SF p mb tm) wr w') : Keep NoF w w' := h.2.2.trans hk (fun _ _ f => f) (fun k hk f => by have := h.2.1; rcases f with f | f | f <;> omega)
theorem SSt.kt (h : SSt w wr p mb tp tm nb br last K td ag) {w' : World} (hk : Keep (fun k => k = tm) wr w') : Keep NoF w w' := h.2.2.trans hk (fun _ _ f => f) (fun k hk f => by have := h.2.1; omega)
theorem sst_new {w : World} {e : Ending} {w1 w' : World} {br : Int} (hk : Keep NoF w w1) (h : NewSes w1 br e w') : ∃ p mb tp tm, e = .returned (.pointer (some ⟨p, 0, none⟩)) ∧ SSt w w' p mb tp tm 0 br 0 [] (fun _ => 0) (fun _ => 0) := by
  obtain ⟨p, mb, tp, tm, rfl, h1, h2, h3, h4, h5, h6⟩ := h
  have := hk.size
  exact ⟨p, mb, tp, tm, rfl, h1, ⟨by omega, by omega, by omega, by omega⟩, hk.trans' h2⟩
theorem sst_open (h : SSt w wr p mb tp tm nb br last K td ag) (hK : K.length < 20) (hl : last < 100000) (hnb : nb ≤ 100000) :
    Calls Tryz.prog 19 #[.pointer (some ⟨p, 0, none⟩)] wr fun e w' => e = .returned (.tuple #[.int .i64 (br * 4294967296 + (last + 1)), .bool true]) ∧ SSt w w' p mb tp tm (nb + 1) br (last + 1) (K ++ [br * 4294967296 + (last + 1)]) (tdUp td (br * 4294967296 + (last + 1)) 0) (agUp ag (br * 4294967296 + (last + 1))) ∧ Keep (SF p mb tm) wr w' :=
  (sopen_ok h.1 hK hl hnb).mono fun _ _ h2 => ⟨h2.1, ⟨h2.2.1, h.2.1, h.kf h2.2.2⟩, h2.2.2⟩
theorem sst_close (h : SSt w wr p mb tp tm nb br last K td ag) (x : Int) (hx : KI x) (hm : x ∈ K) :
    Calls Tryz.prog 20 #[.pointer (some ⟨p, 0, none⟩), .int .i64 x] wr fun e w' => e = .returned (.tuple #[.int .i64 (td x), .bool true]) ∧ SSt w w' p mb tp tm nb br last (K.filter fun z => decide (z ≠ x)) td ag ∧ Keep (SF p mb tm) wr w' :=
  (sclose_ok h.1 x hx hm).mono fun _ _ h2 => ⟨h2.1, ⟨h2.2.1, h.2.1, h.kf h2.2.2⟩, h2.2.2⟩
theorem sst_touch (h : SSt w wr p mb tp tm nb br last K td ag) (x : Int) (hx : KI x) (hm : x ∈ K) (hnb : nb ≤ 100000) :
    Calls Tryz.prog 34 #[.pointer (some ⟨p, 0, none⟩), .int .i64 x] wr fun e w' => e = .returned (.bool true) ∧ SSt w w' p mb tp tm (nb + 1) br last K td (agUp ag x) ∧ Keep (SF p mb tm) wr w' :=
  (stouch_ok h.1 x hx hm hnb).mono fun _ _ h2 => ⟨h2.1, ⟨h2.2.1, h.2.1, h.kt h2.2.2⟩, h2.2.2.mono (fun _ _ e => .inr (.inr e))⟩
theorem sst_bind (h : SSt w wr p mb tp tm nb br last K td ag) (x t : Int) (hx : KI x) (ht : KI t) (hT : ¬ Taken K td x t) (hm : x ∈ K) (hnb : nb ≤ 100000) :
    Calls Tryz.prog 31 #[.pointer (some ⟨p, 0, none⟩), .int .i64 x, .int .i64 t] wr fun e w' => e = .returned (.bool true) ∧ SSt w w' p mb tp tm (nb + 2) br last K (tdUp td x t) (agUp ag x) ∧ Keep (SF p mb tm) wr w' :=
  (sbind_ok h.1 x t hx ht hT hm hnb).mono fun _ _ h2 => ⟨h2.1, ⟨h2.2.1, h.2.1, h.kf h2.2.2⟩, h2.2.2⟩
theorem sst_unbound (h : SSt w wr p mb tp tm nb br last K td ag) (x t : Int) (hx : KI x) (hT : Taken K td x t ∨ x ∉ K) :
    Calls Tryz.prog 31 #[.pointer (some ⟨p, 0, none⟩), .int .i64 x, .int .i64 t] wr fun e w' => e = .returned (.bool false) ∧ SSt w w' p mb tp tm nb br last K td ag ∧ Keep NoF wr w' := by
  by_cases hc : Taken K td x t
  · exact (sbind_taken h.1 x t hc).mono fun _ _ h2 => ⟨h2.1, h.keepN h2.2, h2.2⟩
  · exact (sbind_out h.1 x t hx hc (hT.resolve_left hc)).mono fun _ _ h2 => ⟨h2.1, h.keepN h2.2, h2.2⟩
theorem sst_tick (h : SSt w wr p mb tp tm nb br last K td ag) (hnb : nb + K.length ≤ 100000) :
    Calls Tryz.prog 35 #[.pointer (some ⟨p, 0, none⟩)] wr fun e w' => ∃ v, e = .returned v ∧ RowP 2 wr.heap.size w' v (K.filter fun x => decide (6 ≤ ag x + 1)) ∧ SSt w w' p mb tp tm (nb + K.length) br last K td (fun z => ag z + 1) ∧ Keep (SF p mb tm) wr w' := by
  refine (stick_any h.1 hnb).mono ?_
  rintro e w' ⟨v, rfl, h1, h2, h3⟩
  exact ⟨v, rfl, h1, ⟨h2, h.2.1, h.kt h3⟩, h3.mono (fun _ _ e => .inr (.inr e))⟩
theorem sst_of (h : SSt w wr p mb tp tm nb br last K td ag) (t : Int) :
    Calls Tryz.prog 33 #[.pointer (some ⟨p, 0, none⟩), .int .i64 t] wr fun e w' => ∃ r, e = .returned (.int .i64 r) ∧ OfIs K td t r ∧ SSt w w' p mb tp tm nb br last K td ag ∧ Keep NoF wr w' := by
  refine (sof_tot h.1 t).mono ?_
  rintro e w' ⟨r, rfl, h1, h2⟩
  exact ⟨r, rfl, h1, h.keepN h2, h2⟩
end
/-- The first m numbers of a broker's sessions. -/
def idl (br : Int) (m : Nat) : List Int := (List.range m).map (fun j : Nat => br * 4294967296 + ((j : Int) + 1))
theorem idl_len (br : Int) (m : Nat) : (idl br m).length = m := by unfold idl; simp
theorem idl_succ (br : Int) (m : Nat) : idl br m ++ [br * 4294967296 + ((m : Int) + 1)] = idl br (m + 1) := by unfold idl; rw [List.range_succ, List.map_append]; rfl
theorem mem_idl {br : Int} {m : Nat} {x : Int} : x ∈ idl br m ↔ br * 4294967296 + 1 ≤ x ∧ x ≤ br * 4294967296 + m := by
  unfold idl
  rw [List.mem_map]
  constructor
  · rintro ⟨j, hj, rfl⟩
    have := List.mem_range.1 hj; omega
  · rintro ⟨h1, h2⟩
    exact ⟨(x - br * 4294967296 - 1).toNat, List.mem_range.2 (by omega), by omega⟩
theorem filter_head {x : Int} {t : List Int} (h : (x :: t).Pairwise (· < ·)) : (x :: t).filter (fun z => decide (z ≠ x)) = t := by
  rw [List.filter_cons_of_neg (by simp), List.filter_eq_self]
  intro a ha
  have := (List.pairwise_cons.1 h).1 a ha
  simp; omega
end Go.Proofs.YtdbgplnjppaimaaGreat
