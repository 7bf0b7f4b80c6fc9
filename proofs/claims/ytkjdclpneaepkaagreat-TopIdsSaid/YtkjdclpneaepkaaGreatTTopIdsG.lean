/- TopIds: leaves. -/
import Derived.Test.YtkjdclpneaepkaaGreatTTopIds
set_option linter.unusedVariables false
open Go Go.Ev Go.Ev.Ch Go.RowKit
namespace Go.Proofs.YtkjdclpneaepkaaGreat.Bo
theorem x000TopIds (off n cap : Nat) : allL 2 (fun p => oneTopIds off n cap p true) [false, false, false] = true := by kernel_rfl
theorem b000100TopIds (off n cap : Nat) : oneTopIds off n cap [false, false, false, true, false, false] false = true := by kernel_rfl
theorem b010000TopIds (off n cap : Nat) : oneTopIds off n cap [false, true, false, false, false, false] false = true := by kernel_rfl
theorem b011100TopIds (off n cap : Nat) : oneTopIds off n cap [false, true, true, true, false, false] false = true := by kernel_rfl
theorem b100110TopIds (off n cap : Nat) : oneTopIds off n cap [true, false, false, true, true, false] false = true := by kernel_rfl
theorem b110000TopIds (off n cap : Nat) : oneTopIds off n cap [true, true, false, false, false, false] false = true := by kernel_rfl
theorem b111010TopIds (off n cap : Nat) : oneTopIds off n cap [true, true, true, false, true, false] false = true := by kernel_rfl
theorem b1111110TopIds (off n cap : Nat) : oneTopIds off n cap [true, true, true, true, true, true, false] false = true := by kernel_rfl
end Go.Proofs.YtkjdclpneaepkaaGreat.Bo
