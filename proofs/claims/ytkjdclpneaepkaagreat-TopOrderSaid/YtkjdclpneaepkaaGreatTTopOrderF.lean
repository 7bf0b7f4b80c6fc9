/- TopOrder: leaves. -/
import Derived.Test.YtkjdclpneaepkaaGreatTTopOrder
set_option linter.unusedVariables false
open Go Go.Ev Go.Ev.Ch Go.RowKit
namespace Go.Proofs.YtkjdclpneaepkaaGreat.Bo
theorem b0010TopOrder (off n cap : Nat) : oneTopOrder off n cap [false, false, true, false] false = true := by kernel_rfl
theorem b1000TopOrder (off n cap : Nat) : oneTopOrder off n cap [true, false, false, false] false = true := by kernel_rfl
theorem b1110TopOrder (off n cap : Nat) : oneTopOrder off n cap [true, true, true, false] false = true := by kernel_rfl
end Go.Proofs.YtkjdclpneaepkaaGreat.Bo
