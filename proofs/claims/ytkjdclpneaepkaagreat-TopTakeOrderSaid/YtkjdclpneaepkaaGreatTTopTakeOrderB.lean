/- TopTakeOrder: leaves. -/
import Derived.Test.YtkjdclpneaepkaaGreatTTopTakeOrder
set_option linter.unusedVariables false
open Go Go.Ev Go.Ev.Ch Go.RowKit
namespace Go.Proofs.YtkjdclpneaepkaaGreat.Bo
theorem b0100TopTakeOrder (off n cap : Nat) : oneTopTakeOrder off n cap [false, true, false, false] false = true := by kernel_rfl
theorem b0101TopTakeOrder (off n cap : Nat) : oneTopTakeOrder off n cap [false, true, false, true] false = true := by kernel_rfl
theorem b0110TopTakeOrder (off n cap : Nat) : oneTopTakeOrder off n cap [false, true, true, false] false = true := by kernel_rfl
theorem b0111TopTakeOrder (off n cap : Nat) : oneTopTakeOrder off n cap [false, true, true, true] false = true := by kernel_rfl
end Go.Proofs.YtkjdclpneaepkaaGreat.Bo
