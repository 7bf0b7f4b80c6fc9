/- TopOrder: leaves. -/
import Derived.Test.YtkjdclpneaepkaaGreatTTopOrder
set_option linter.unusedVariables false
open Go Go.Ev Go.Ev.Ch Go.RowKit
namespace Go.Proofs.YtkjdclpneaepkaaGreat.Bo
theorem b0000TopOrder (off n cap : Nat) : oneTopOrder off n cap [false, false, false, false] false = true := by kernel_rfl
theorem b0110TopOrder (off n cap : Nat) : oneTopOrder off n cap [false, true, true, false] false = true := by kernel_rfl
theorem b1100TopOrder (off n cap : Nat) : oneTopOrder off n cap [true, true, false, false] false = true := by kernel_rfl
end Go.Proofs.YtkjdclpneaepkaaGreat.Bo
