/- TopIds: leaves. -/
import Derived.Test.YtkjdclpneaepkaaGreatTTopIds
set_option linter.unusedVariables false
open Go Go.Ev Go.Ev.Ch Go.RowKit
namespace Go.Proofs.YtkjdclpneaepkaaGreat.Bo
theorem x101TopIds (off n cap : Nat) : allL 2 (fun p => oneTopIds off n cap p true) [true, false, true] = true := by kernel_rfl
theorem b001001TopIds (off n cap : Nat) : oneTopIds off n cap [false, false, true, false, false, true] false = true := by kernel_rfl
theorem b010101TopIds (off n cap : Nat) : oneTopIds off n cap [false, true, false, true, false, true] false = true := by kernel_rfl
theorem b0111111TopIds (off n cap : Nat) : oneTopIds off n cap [false, true, true, true, true, true, true] false = true := by kernel_rfl
theorem b101011TopIds (off n cap : Nat) : oneTopIds off n cap [true, false, true, false, true, true] false = true := by kernel_rfl
theorem b110101TopIds (off n cap : Nat) : oneTopIds off n cap [true, true, false, true, false, true] false = true := by kernel_rfl
theorem e111101TopIds (off n cap : Nat) : oneTopIds off n cap [true, true, true, true, false, true] true = true := by kernel_rfl
end Go.Proofs.YtkjdclpneaepkaaGreat.Bo
