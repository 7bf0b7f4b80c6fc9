/- TopOrder: leaves. -/
import Derived.Test.YtkjdclpneaepkaaGreatTTopOrder
set_option linter.unusedVariables false
open Go Go.Ev Go.Ev.Ch Go.RowKit
namespace Go.Proofs.YtkjdclpneaepkaaGreat.Bo
theorem shortTopOrder1 (off n cap : Nat) : allP 1 2 (fun p => oneTopOrder off n cap p true) = true := by kernel_rfl
theorem b0100TopOrder (off n cap : Nat) : oneTopOrder off n cap [false, true, false, false] false = true := by kernel_rfl
theorem b1010TopOrder (off n cap : Nat) : oneTopOrder off n cap [true, false, true, false] false = true := by kernel_rfl
end Go.Proofs.YtkjdclpneaepkaaGreat.Bo
