/- Small words on rows, slices, worlds. -/
import Derived.Test.YtdbgplnjppaimaaGreatBase
import Derived.Deep.AppendSrc
import Derived.BigQuiet
open Go Go.RowKit
namespace Go.Proofs.YtdbgplnjppaimaaGreat

theorem row_slice {w : World} {b s n : Nat} {e : TypeId} {v : Value} {xs : List Value} (h : w.ownsRow b e s v n xs) : ∃ ao cp, v = .slice ao n cp := by
  rcases h.2 with ⟨rfl, he⟩ | ⟨g, cap, cur, rfl, _⟩
  · exact ⟨none, 0, by rw [he]⟩
  · exact ⟨_, _, rfl⟩
theorem row_keep {F : Nat → Prop} {b n s : Nat} {w w' : World} {e : TypeId} {v : Value} {xs : List Value} (h : w.ownsRow b e s v n xs) (hk : Keep F w w') (hf : ∀ g, v.ownBlock = some g → ¬ F g) : w'.ownsRow b e s v n xs := by
  rcases h with ⟨h1, h2 | ⟨g, cap, cur, rfl, hb, hg, h4, h5, h6, h7⟩⟩
  · exact ⟨h1, .inl h2⟩
  · exact ⟨h1, .inr ⟨g, cap, cur, rfl, hb, by rw [hk.block g (lt_of_heap hg) (hf g rfl)]; exact hg, h4, h5, h6, h7⟩⟩
theorem keepR {b n s : Nat} {w w' : World} {e : TypeId} {v : Value} {xs : List Value} (h : w.ownsRow b e s v n xs) (hk : Keep NoF w w') : w'.ownsRow b e s v n xs := row_keep h hk fun _ _ f => f
theorem row_base {b b' s n : Nat} {w : World} {e : TypeId} {v : Value} {xs : List Value} (h : w.ownsRow b e s v n xs) (hb : b' ≤ b) : w.ownsRow b' e s v n xs := by
  rcases h with ⟨h1, h2 | ⟨g, cap, cur, rfl, hb2, h3⟩⟩
  · exact ⟨h1, .inl h2⟩
  · exact ⟨h1, .inr ⟨g, cap, cur, rfl, Nat.le_trans hb hb2, h3⟩⟩
theorem row_fresh {b s n : Nat} {w : World} {e : TypeId} {v : Value} {xs : List Value} (h : w.ownsRow b e s v n xs) : ∀ g, v.ownBlock = some g → b ≤ g := by
  rcases h.2 with ⟨rfl, _⟩ | ⟨g, cap, cur, rfl, hb, _⟩
  · exact nofun
  · intro k hk; injection hk with hk; subst hk; exact hb
theorem row_lt {b s n : Nat} {w : World} {e : TypeId} {v : Value} {xs : List Value} (h : w.ownsRow b e s v n xs) : ∀ g, v.ownBlock = some g → g < w.heap.size := by
  rcases h.2 with ⟨rfl, _⟩ | ⟨g, cap, cur, rfl, _, hg, _⟩
  · exact nofun
  · intro k hk; injection hk with hk; subst hk; exact lt_of_heap hg
theorem row_own {b s n : Nat} {w : World} {e : TypeId} {ao : Option Addr} {cp : Nat} {xs : List Value} (h : w.ownsRow b e s (.slice ao n cp) n xs) {a : Addr} (ha : ao = some a) : (Value.slice ao n cp).ownBlock = some a.block ∧ a = ⟨a.block, 0, none⟩ := by
  subst ha
  rcases h.2 with ⟨e, _⟩ | ⟨g, cap, cur, e, _⟩
  · cases e
  · injection e with e; injection e with e; subst e
    exact ⟨rfl, rfl⟩
theorem wp_named {P : Program} {c : Code} {Q : Exit → Act → World → Prop} {a : Act} {F : Nat → Prop} {wq W : World} (hW : Keep F wq W) (h : ∀ W', Keep F wq W' → Code.wp P c Q a W') : Code.wp P c Q a W := h W hW

/-- A slice of one-cell values that can be read. -/
def SlG {α : Type} (enc : α → Value) (w : World) (ao : Option Addr) (cp : Nat) (l : List α) : Prop :=
  l.length ≤ cp ∧ cp ≤ maxLen ∧ ∀ i (h : i < l.length), ∃ g off, ao = some ⟨g, off, none⟩ ∧ w.cell? ⟨g, off + i, none⟩ = some (enc l[i])
theorem SlG.keep {α : Type} {enc : α → Value} {F : Nat → Prop} {w w' : World} {ao : Option Addr} {cp : Nat} {l : List α} (h : SlG enc w ao cp l) (hk : Keep F w w') (hn : ∀ a, ao = some a → ¬ F a.block) : SlG enc w' ao cp l := by
  refine ⟨h.1, h.2.1, fun i hi => ?_⟩
  obtain ⟨g, off, rfl, hc⟩ := h.2.2 i hi
  exact ⟨g, off, rfl, hk.cell' hc (hn ⟨g, off, none⟩ rfl)⟩
theorem row_slG {α : Type} {enc : α → Value} {b : Nat} {w : World} {ao : Option Addr} {cp n : Nat} {e : TypeId} {l : List α} (hl : l.length = n) (h : w.ownsRow b e 1 (.slice ao n cp) n (l.map enc)) : SlG enc w ao cp l := by
  subst hl
  rcases h.2 with ⟨e, he⟩ | ⟨g, cap, cur, e, _, hg, hn, hc, hcs, htk⟩
  · injection e with e1 e2 e3
    have : l = [] := List.eq_nil_of_length_eq_zero (by omega)
    subst this
    exact ⟨by simp, by unfold maxLen; omega, by simp⟩
  · injection e with e1 e2 e3
    subst e1 e3
    refine ⟨hn, hc, fun i hi => ⟨g, 0, rfl, ?_⟩⟩
    rw [Nat.zero_add, h.cellAt i (by omega), List.getElem?_map, List.getElem?_eq_getElem hi]
    rfl
end Go.Proofs.YtdbgplnjppaimaaGreat
