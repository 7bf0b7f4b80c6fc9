/- TopIds: leaves. -/
import Derived.Test.YtkjdclpneaepkaaGreatTTopIds
set_option linter.unusedVariables false
open Go Go.Ev Go.Ev.Ch Go.RowKit
namespace Go.Proofs.YtkjdclpneaepkaaGreat.Bo
theorem x10TopIds (off n cap : Nat) : allL 2 (fun p => oneTopIds off n cap p true) [true, false] = true := by kernel_rfl
theorem b000010TopIds (off n cap : Nat) : oneTopIds off n cap [false, false, false, false, true, false] false = true := by kernel_rfl
theorem b001110TopIds (off n cap : Nat) : oneTopIds off n cap [false, false, true, true, true, false] false = true := by kernel_rfl
theorem b011010TopIds (off n cap : Nat) : oneTopIds off n cap [false, true, true, false, true, false] false = true := by kernel_rfl
theorem b100100TopIds (off n cap : Nat) : oneTopIds off n cap [true, false, false, true, false, false] false = true := by kernel_rfl
theorem b1011110TopIds (off n cap : Nat) : oneTopIds off n cap [true, false, true, true, true, true, false] false = true := by kernel_rfl
theorem b111000TopIds (off n cap : Nat) : oneTopIds off n cap [true, true, true, false, false, false] false = true := by kernel_rfl
theorem b1111101TopIds (off n cap : Nat) : oneTopIds off n cap [true, true, true, true, true, false, true] false = true := by kernel_rfl
end Go.Proofs.YtkjdclpneaepkaaGreat.Bo
