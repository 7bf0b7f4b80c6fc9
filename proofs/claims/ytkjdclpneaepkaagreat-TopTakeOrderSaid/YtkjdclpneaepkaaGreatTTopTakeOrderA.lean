/- TopTakeOrder: leaves. -/
import Derived.Test.YtkjdclpneaepkaaGreatTTopTakeOrder
set_option linter.unusedVariables false
open Go Go.Ev Go.Ev.Ch Go.RowKit
namespace Go.Proofs.YtkjdclpneaepkaaGreat.Bo
theorem nilTopTakeOrder : empTopTakeOrder .ns = true := by kernel_rfl
theorem seTopTakeOrder : empTopTakeOrder .se = true := by kernel_rfl
theorem shortTopTakeOrder1 (off n cap : Nat) : allP 1 3 (fun p => oneTopTakeOrder off n cap p true) = true := by kernel_rfl
theorem b0000TopTakeOrder (off n cap : Nat) : oneTopTakeOrder off n cap [false, false, false, false] false = true := by kernel_rfl
theorem b0001TopTakeOrder (off n cap : Nat) : oneTopTakeOrder off n cap [false, false, false, true] false = true := by kernel_rfl
theorem b0010TopTakeOrder (off n cap : Nat) : oneTopTakeOrder off n cap [false, false, true, false] false = true := by kernel_rfl
theorem b0011TopTakeOrder (off n cap : Nat) : oneTopTakeOrder off n cap [false, false, true, true] false = true := by kernel_rfl
end Go.Proofs.YtkjdclpneaepkaaGreat.Bo
