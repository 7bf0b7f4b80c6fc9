/- TopIds: leaves. -/
import Derived.Test.YtkjdclpneaepkaaGreatTTopIds
set_option linter.unusedVariables false
open Go Go.Ev Go.Ev.Ch Go.RowKit
namespace Go.Proofs.YtkjdclpneaepkaaGreat.Bo
theorem x001TopIds (off n cap : Nat) : allL 2 (fun p => oneTopIds off n cap p true) [false, false, true] = true := by kernel_rfl
theorem b000101TopIds (off n cap : Nat) : oneTopIds off n cap [false, false, false, true, false, true] false = true := by kernel_rfl
theorem b010001TopIds (off n cap : Nat) : oneTopIds off n cap [false, true, false, false, false, true] false = true := by kernel_rfl
theorem b011101TopIds (off n cap : Nat) : oneTopIds off n cap [false, true, true, true, false, true] false = true := by kernel_rfl
theorem b100111TopIds (off n cap : Nat) : oneTopIds off n cap [true, false, false, true, true, true] false = true := by kernel_rfl
theorem b110001TopIds (off n cap : Nat) : oneTopIds off n cap [true, true, false, false, false, true] false = true := by kernel_rfl
theorem e111011TopIds (off n cap : Nat) : oneTopIds off n cap [true, true, true, false, true, true] true = true := by kernel_rfl
theorem b1111111TopIds (off n cap : Nat) : oneTopIds off n cap [true, true, true, true, true, true, true] false = true := by kernel_rfl
end Go.Proofs.YtkjdclpneaepkaaGreat.Bo
