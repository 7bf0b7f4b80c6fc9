/- slices.Insert of one element of two cells. -/
import Derived.Test.YtdbgplnjppaimaaGreatBagK
import Derived.Test.YtdbgplnjppaimaaGreatChecked
import Derived.Laws.Externs
import Derived.Deep.CutRange
import Derived.Deep.RegionHeld
open Go Go.RowKit
namespace Go.Proofs.YtdbgplnjppaimaaGreat
theorem infoBI : (Tryz.prog.info? 190).map (fun i => (i.zero, i.size, i.bytes)) = some (some (.agg #[.int .i64 0, .int .i64 0]), 2, 16) := by kernel_rfl
theorem sizeBI : (Tryz.prog.info? 190).map (·.size) = some 2 := by kernel_rfl
def InsPI (w : World) (v : Value) (n i : Nat) (xs : List Value) (y1 y2 : Value) (e : Ending) (w' : World) : Prop :=
  ∃ v', e = .returned v' ∧ w'.ownsRow 0 190 2 v' (n + 1) (xs.take (i * 2) ++ [y1, y2] ++ xs.drop (i * 2)) ∧ w.grownBy w' v.ownBlock ∧ (∀ g, v'.ownBlock = some g → v.ownBlock = some g ∨ w.heap.size ≤ g)
end Go.Proofs.YtdbgplnjppaimaaGreat
