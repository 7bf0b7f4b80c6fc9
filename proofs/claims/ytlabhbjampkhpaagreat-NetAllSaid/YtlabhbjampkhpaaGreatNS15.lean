/- A net of the law's own. -/
import Derived.Test.YtlabhbjampkhpaaGreatKit15
open Go Go.RowKit
namespace Go.Proofs.YtlabhbjampkhpaaGreat
/-- A net that was made behind w. -/
def NS (w wr : World) (nb : Nat) (ps : List PackV) : Prop := ∃ F, NetW wr F nb ps ∧ (∀ k, F k → w.heap.size ≤ k) ∧ Keep NoF w wr
theorem NS.good {w wr : World} {nb : Nat} {ps : List PackV} (h : NS w wr nb ps) : (∀ p ∈ ps, GoodP p) ∧ ps.length ≤ 400 := by
  obtain ⟨F, h, _⟩ := h
  exact h.good
theorem NS.world {w wr : World} {nb : Nat} {ps : List PackV} (h : NS w wr nb ps) : Keep NoF w wr := by
  obtain ⟨F, _, _, h⟩ := h
  exact h
theorem NS.keep {w wr wc : World} {nb : Nat} {ps : List PackV} (h : NS w wr nb ps) (hk : Keep NoF wr wc) : NS w wc nb ps := by
  obtain ⟨F, h1, h2, h3⟩ := h
  exact ⟨F, h1.keep hk (fun _ _ f => f), h2, h3.trans' hk⟩
theorem NS.of {w wr wc : World} {nb : Nat} {ps : List PackV} {F : Nat → Prop} (h1 : NetW wc (Wid F wr wc) nb ps) (h2 : ∀ k, F k → w.heap.size ≤ k) (h3 : Keep NoF w wr) (h4 : Keep F wr wc) : NS w wc nb ps :=
  ⟨_, h1, fun k hk => hk.elim (h2 k) (fun e => Nat.le_trans h3.size e.1), h3.trans h4 (fun _ _ f => f) (fun k hk f => by have := h2 k f; omega)⟩
theorem ns_new (w wr : World) (hk : Keep NoF w wr) : Calls Tryz.prog 20 #[] wr fun e w' => ∃ nb, e = .returned (.pointer (some ⟨nb, 0, none⟩)) ∧ NS w w' nb [] := by
  refine (netnew_any wr).mono ?_
  rintro e w' ⟨nb, F, rfl, h1, h2, h3⟩
  exact ⟨nb, rfl, F, h1, fun k hF => Nat.le_trans hk.size (h3 k hF), hk.trans' h2⟩
theorem ns_send (w wr : World) (nb : Nat) (p : PackV) (ps : List PackV) (h : NS w wr nb ps) (hp : p.Ok) :
    Calls Tryz.prog 21 #[.pointer (some ⟨nb, 0, none⟩), packVal p] wr fun e w' => e = .returned (.bool (sentB p ps)) ∧ NS w w' nb (sendP p ps) := by
  obtain ⟨F, h1, h2, h3⟩ := h
  refine (send_any F nb p ps wr h1 hp).mono ?_
  rintro e w' ⟨rfl, h4, h5⟩
  exact ⟨rfl, NS.of h4 h2 h3 h5⟩
theorem ns_len (w wr : World) (nb : Nat) (ps : List PackV) (h : NS w wr nb ps) :
    Calls Tryz.prog 26 #[.pointer (some ⟨nb, 0, none⟩)] wr fun e w' => e = .returned (.int .i64 (ps.length : Nat)) ∧ w' = wr := by
  obtain ⟨F, h1, _⟩ := h
  exact netlen_any F nb ps wr h1
theorem ns_look (w wr : World) (nb : Nat) (ps : List PackV) (i : Int) (h : NS w wr nb ps) (hi : -9223372036854775808 ≤ i ∧ i ≤ 9223372036854775807) :
    Calls Tryz.prog 24 #[.pointer (some ⟨nb, 0, none⟩), .int .i64 i] wr fun e w' => e = .returned (.tuple #[packVal (lookP ps i), .bool (inP ps i)]) ∧ Keep NoF wr w' := by
  obtain ⟨F, h1, _⟩ := h
  exact look_any F nb ps i wr h1 hi
theorem ns_take (w wr : World) (nb : Nat) (ps : List PackV) (i : Int) (h : NS w wr nb ps) (hi : -9223372036854775808 ≤ i ∧ i ≤ 9223372036854775807) :
    Calls Tryz.prog 25 #[.pointer (some ⟨nb, 0, none⟩), .int .i64 i] wr fun e w' => e = .returned (.tuple #[packVal (lookP ps i), .bool (inP ps i)]) ∧ NS w w' nb (takeP ps i) := by
  obtain ⟨F, h1, h2, h3⟩ := h
  refine (take_any F nb ps i wr h1 hi).mono ?_
  rintro e w' ⟨rfl, h4, h5⟩
  exact ⟨rfl, NS.of h4 h2 h3 h5⟩
theorem ns_twice (w wr : World) (nb : Nat) (ps : List PackV) (i : Int) (h : NS w wr nb ps) (hi : -9223372036854775808 ≤ i ∧ i ≤ 9223372036854775807) :
    Calls Tryz.prog 23 #[.pointer (some ⟨nb, 0, none⟩), .int .i64 i] wr fun e w' => e = .returned (.bool (twiceB ps i)) ∧ NS w w' nb (twiceP ps i) := by
  obtain ⟨F, h1, h2, h3⟩ := h
  refine (twice_any F nb ps i wr h1 hi).mono ?_
  rintro e w' ⟨rfl, h4, h5⟩
  exact ⟨rfl, NS.of h4 h2 h3 h5⟩
end Go.Proofs.YtlabhbjampkhpaaGreat
