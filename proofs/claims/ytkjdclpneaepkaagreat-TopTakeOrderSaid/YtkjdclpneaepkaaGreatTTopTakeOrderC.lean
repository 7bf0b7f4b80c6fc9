/- TopTakeOrder: leaves. -/
import Derived.Test.YtkjdclpneaepkaaGreatTTopTakeOrder
set_option linter.unusedVariables false
open Go Go.Ev Go.Ev.Ch Go.RowKit
namespace Go.Proofs.YtkjdclpneaepkaaGreat.Bo
theorem b1000TopTakeOrder (off n cap : Nat) : oneTopTakeOrder off n cap [true, false, false, false] false = true := by kernel_rfl
theorem b1001TopTakeOrder (off n cap : Nat) : oneTopTakeOrder off n cap [true, false, false, true] false = true := by kernel_rfl
theorem b1010TopTakeOrder (off n cap : Nat) : oneTopTakeOrder off n cap [true, false, true, false] false = true := by kernel_rfl
theorem b1011TopTakeOrder (off n cap : Nat) : oneTopTakeOrder off n cap [true, false, true, true] false = true := by kernel_rfl
end Go.Proofs.YtkjdclpneaepkaaGreat.Bo
