/- TopTakeOrder: leaves. -/
import Derived.Test.YtkjdclpneaepkaaGreatTTopTakeOrder
set_option linter.unusedVariables false
open Go Go.Ev Go.Ev.Ch Go.RowKit
namespace Go.Proofs.YtkjdclpneaepkaaGreat.Bo
theorem b1100TopTakeOrder (off n cap : Nat) : oneTopTakeOrder off n cap [true, true, false, false] false = true := by kernel_rfl
theorem b1101TopTakeOrder (off n cap : Nat) : oneTopTakeOrder off n cap [true, true, false, true] false = true := by kernel_rfl
theorem b1110TopTakeOrder (off n cap : Nat) : oneTopTakeOrder off n cap [true, true, true, false] false = true := by kernel_rfl
theorem b1111TopTakeOrder (off n cap : Nat) : oneTopTakeOrder off n cap [true, true, true, true] false = true := by kernel_rfl
end Go.Proofs.YtkjdclpneaepkaaGreat.Bo
