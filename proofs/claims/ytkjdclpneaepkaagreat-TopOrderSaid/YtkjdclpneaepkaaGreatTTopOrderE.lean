/- TopOrder: leaves. -/
import Derived.Test.YtkjdclpneaepkaaGreatTTopOrder
set_option linter.unusedVariables false
open Go Go.Ev Go.Ev.Ch Go.RowKit
namespace Go.Proofs.YtkjdclpneaepkaaGreat.Bo
theorem b0001TopOrder (off n cap : Nat) : oneTopOrder off n cap [false, false, false, true] false = true := by kernel_rfl
theorem b0111TopOrder (off n cap : Nat) : oneTopOrder off n cap [false, true, true, true] false = true := by kernel_rfl
theorem b1101TopOrder (off n cap : Nat) : oneTopOrder off n cap [true, true, false, true] false = true := by kernel_rfl
end Go.Proofs.YtkjdclpneaepkaaGreat.Bo
