/- TopIds: leaves. -/
import Derived.Test.YtkjdclpneaepkaaGreatTTopIds
set_option linter.unusedVariables false
open Go Go.Ev Go.Ev.Ch Go.RowKit
namespace Go.Proofs.YtkjdclpneaepkaaGreat.Bo
theorem x010TopIds (off n cap : Nat) : allL 2 (fun p => oneTopIds off n cap p true) [false, true, false] = true := by kernel_rfl
theorem b000110TopIds (off n cap : Nat) : oneTopIds off n cap [false, false, false, true, true, false] false = true := by kernel_rfl
theorem b010010TopIds (off n cap : Nat) : oneTopIds off n cap [false, true, false, false, true, false] false = true := by kernel_rfl
theorem b011110TopIds (off n cap : Nat) : oneTopIds off n cap [false, true, true, true, true, false] false = true := by kernel_rfl
theorem b101000TopIds (off n cap : Nat) : oneTopIds off n cap [true, false, true, false, false, false] false = true := by kernel_rfl
theorem b110010TopIds (off n cap : Nat) : oneTopIds off n cap [true, true, false, false, true, false] false = true := by kernel_rfl
theorem b1110110TopIds (off n cap : Nat) : oneTopIds off n cap [true, true, true, false, true, true, false] false = true := by kernel_rfl
end Go.Proofs.YtkjdclpneaepkaaGreat.Bo
