/- Rows of whole numbers and of puts as they lie in memory; a record as a value. -/
import Derived.Test.YtdbgplnjppaimaaGreatKind
import Derived.Deep.SlicePairs
open Go Go.RowKit
namespace Go.Proofs.YtdbgplnjppaimaaGreat

def InI64 (n : Int) : Prop := -9223372036854775808 ≤ n ∧ n ≤ 9223372036854775807
/-- A slice of whole numbers that can be read. -/
def SlI (w : World) (ao : Option Addr) (cp : Nat) (l : List Int) : Prop :=
  l.length ≤ cp ∧ cp ≤ maxLen ∧ (∀ n ∈ l, InI64 n) ∧ ∀ i (h : i < l.length), ∃ g off, ao = some ⟨g, off, none⟩ ∧ w.cell? ⟨g, off + i, none⟩ = some (.int .i64 l[i])
/-- A slice of puts that can be read. -/
def SlP (w : World) (ao : Option Addr) (cp : Nat) (l : List PutV) : Prop :=
  l.length ≤ cp ∧ cp ≤ maxLen ∧ (∀ p ∈ l, p.q.size ≤ maxLen ∧ p.b.size ≤ maxLen) ∧
    ∀ i (h : i < l.length), ∃ g off, ao = some ⟨g, off, none⟩ ∧ w.cell? ⟨g, off + i * 2, none⟩ = some (.string l[i].q) ∧ w.cell? ⟨g, off + i * 2 + 1, none⟩ = some (.string l[i].b)

theorem SlI.keep {F : Nat → Prop} {w w' : World} {ao : Option Addr} {cp : Nat} {l : List Int} (h : SlI w ao cp l) (hk : Keep F w w') (hn : ∀ g, blockOf ao = some g → ¬ F g) : SlI w' ao cp l := by
  refine ⟨h.1, h.2.1, h.2.2.1, fun i hi => ?_⟩
  obtain ⟨g, off, rfl, hc⟩ := h.2.2.2 i hi
  exact ⟨g, off, rfl, hk.cell' hc (hn g rfl)⟩
theorem SlP.keep {F : Nat → Prop} {w w' : World} {ao : Option Addr} {cp : Nat} {l : List PutV} (h : SlP w ao cp l) (hk : Keep F w w') (hn : ∀ g, blockOf ao = some g → ¬ F g) : SlP w' ao cp l := by
  refine ⟨h.1, h.2.1, h.2.2.1, fun i hi => ?_⟩
  obtain ⟨g, off, rfl, hc, hd⟩ := h.2.2.2 i hi
  exact ⟨g, off, rfl, hk.cell' hc (hn g rfl), hk.cell' hd (hn g rfl)⟩
theorem SlI.nil (w : World) : SlI w none 0 [] := ⟨Nat.le_refl _, by decide, by simp, by simp⟩
theorem SlP.nil (w : World) : SlP w none 0 [] := ⟨Nat.le_refl _, by decide, by simp, by simp⟩

def recVal (r : RecV) (a4 : Option Addr) (c4 : Nat) (a5 : Option Addr) (c5 : Nat) : Value :=
  .agg #[.int .i64 r.kind, .int .i64 r.tid, .int .i64 r.id, .bool r.yes, .slice a4 r.parts.length c4, .slice a5 r.puts.length c5]
structure RecAt (w : World) (r : RecV) (a4 : Option Addr) (c4 : Nat) (a5 : Option Addr) (c5 : Nat) : Prop where
  kind : InI64 r.kind
  tid : InI64 r.tid
  id : InI64 r.id
  parts : SlI w a4 c4 r.parts
  puts : SlP w a5 c5 r.puts
theorem RecAt.keep {w w' : World} {r : RecV} {a4 : Option Addr} {c4 : Nat} {a5 : Option Addr} {c5 : Nat} (h : RecAt w r a4 c4 a5 c5) (hk : Keep NoF w w') : RecAt w' r a4 c4 a5 c5 :=
  ⟨h.kind, h.tid, h.id, h.parts.keep hk (fun _ _ f => f), h.puts.keep hk (fun _ _ f => f)⟩
end Go.Proofs.YtdbgplnjppaimaaGreat
