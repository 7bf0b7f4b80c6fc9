/- slices.Delete of one element of two cells. -/
import Derived.Test.YtdbgplnjppaimaaGreatBagK
import Derived.Test.YtdbgplnjppaimaaGreatChecked
import Derived.Deep.CutRange
import Derived.Deep.RegionHeld
open Go Go.RowKit
namespace Go.Proofs.YtdbgplnjppaimaaGreat
theorem infoDI : (Tryz.prog.info? 190).map (fun i => (i.zero, i.size, i.bytes)) = some (some (.agg #[.int .i64 0, .int .i64 0]), 2, 16) := by kernel_rfl
theorem zeroDI (w : World) : (zeroValue 190).run Tryz.prog w = .ok (.agg #[.int .i64 0, .int .i64 0]) w := by kernel_rfl
def DelPI (w : World) (g0 k cp i : Nat) (xs : List Value) (e : Ending) (w' : World) : Prop :=
  e = .returned (.slice (some ⟨g0, 0, none⟩) k cp) ∧ w'.ownsRow 0 190 2 (.slice (some ⟨g0, 0, none⟩) k cp) k (xs.take (i * 2) ++ xs.drop ((i + 1) * 2)) ∧ w.grownBy w' (some g0)
end Go.Proofs.YtdbgplnjppaimaaGreat
