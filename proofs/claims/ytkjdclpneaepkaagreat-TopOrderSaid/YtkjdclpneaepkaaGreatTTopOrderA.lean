/- TopOrder: leaves. -/
import Derived.Test.YtkjdclpneaepkaaGreatTTopOrder
set_option linter.unusedVariables false
open Go Go.Ev Go.Ev.Ch Go.RowKit
namespace Go.Proofs.YtkjdclpneaepkaaGreat.Bo
theorem nilTopOrder : empTopOrder .ns = true := by kernel_rfl
theorem seTopOrder : empTopOrder .se = true := by kernel_rfl
theorem b0011TopOrder (off n cap : Nat) : oneTopOrder off n cap [false, false, true, true] false = true := by kernel_rfl
theorem b1001TopOrder (off n cap : Nat) : oneTopOrder off n cap [true, false, false, true] false = true := by kernel_rfl
theorem b1111TopOrder (off n cap : Nat) : oneTopOrder off n cap [true, true, true, true] false = true := by kernel_rfl
end Go.Proofs.YtkjdclpneaepkaaGreat.Bo
