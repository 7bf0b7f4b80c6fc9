/- TopOrder: leaves. -/
import Derived.Test.YtkjdclpneaepkaaGreatTTopOrder
set_option linter.unusedVariables false
open Go Go.Ev Go.Ev.Ch Go.RowKit
namespace Go.Proofs.YtkjdclpneaepkaaGreat.Bo
theorem shortTopOrder3 (off n cap : Nat) : allP 3 3 (fun p => oneTopOrder off n cap p true) = true := by kernel_rfl
theorem b0101TopOrder (off n cap : Nat) : oneTopOrder off n cap [false, true, false, true] false = true := by kernel_rfl
theorem b1011TopOrder (off n cap : Nat) : oneTopOrder off n cap [true, false, true, true] false = true := by kernel_rfl
end Go.Proofs.YtkjdclpneaepkaaGreat.Bo
