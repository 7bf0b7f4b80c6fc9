/- TopIds: leaves. -/
import Derived.Test.YtkjdclpneaepkaaGreatTTopIds
set_option linter.unusedVariables false
open Go Go.Ev Go.Ev.Ch Go.RowKit
namespace Go.Proofs.YtkjdclpneaepkaaGreat.Bo
theorem nilTopIds : empTopIds .ns = true := by kernel_rfl
theorem seTopIds : empTopIds .se = true := by kernel_rfl
theorem x110TopIds (off n cap : Nat) : allL 2 (fun p => oneTopIds off n cap p true) [true, true, false] = true := by kernel_rfl
theorem b001010TopIds (off n cap : Nat) : oneTopIds off n cap [false, false, true, false, true, false] false = true := by kernel_rfl
theorem b010110TopIds (off n cap : Nat) : oneTopIds off n cap [false, true, false, true, true, false] false = true := by kernel_rfl
theorem b100000TopIds (off n cap : Nat) : oneTopIds off n cap [true, false, false, false, false, false] false = true := by kernel_rfl
theorem b101100TopIds (off n cap : Nat) : oneTopIds off n cap [true, false, true, true, false, false] false = true := by kernel_rfl
theorem b110110TopIds (off n cap : Nat) : oneTopIds off n cap [true, true, false, true, true, false] false = true := by kernel_rfl
theorem b1111010TopIds (off n cap : Nat) : oneTopIds off n cap [true, true, true, true, false, true, false] false = true := by kernel_rfl
end Go.Proofs.YtkjdclpneaepkaaGreat.Bo
