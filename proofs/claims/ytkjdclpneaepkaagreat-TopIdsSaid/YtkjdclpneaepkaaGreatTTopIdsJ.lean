/- TopIds: leaves. -/
import Derived.Test.YtkjdclpneaepkaaGreatTTopIds
set_option linter.unusedVariables false
open Go Go.Ev Go.Ev.Ch Go.RowKit
namespace Go.Proofs.YtkjdclpneaepkaaGreat.Bo
theorem x011TopIds (off n cap : Nat) : allL 2 (fun p => oneTopIds off n cap p true) [false, true, true] = true := by kernel_rfl
theorem b000111TopIds (off n cap : Nat) : oneTopIds off n cap [false, false, false, true, true, true] false = true := by kernel_rfl
theorem b010011TopIds (off n cap : Nat) : oneTopIds off n cap [false, true, false, false, true, true] false = true := by kernel_rfl
theorem e011111TopIds (off n cap : Nat) : oneTopIds off n cap [false, true, true, true, true, true] true = true := by kernel_rfl
theorem b101001TopIds (off n cap : Nat) : oneTopIds off n cap [true, false, true, false, false, true] false = true := by kernel_rfl
theorem b110011TopIds (off n cap : Nat) : oneTopIds off n cap [true, true, false, false, true, true] false = true := by kernel_rfl
theorem b1110111TopIds (off n cap : Nat) : oneTopIds off n cap [true, true, true, false, true, true, true] false = true := by kernel_rfl
end Go.Proofs.YtkjdclpneaepkaaGreat.Bo
