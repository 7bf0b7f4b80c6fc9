/- TopIds: leaves. -/
import Derived.Test.YtkjdclpneaepkaaGreatTTopIds
set_option linter.unusedVariables false
open Go Go.Ev Go.Ev.Ch Go.RowKit
namespace Go.Proofs.YtkjdclpneaepkaaGreat.Bo
theorem shortTopIds1 (off n cap : Nat) : allP 1 3 (fun p => oneTopIds off n cap p true) = true := by kernel_rfl
theorem x111TopIds (off n cap : Nat) : allL 2 (fun p => oneTopIds off n cap p true) [true, true, true] = true := by kernel_rfl
theorem b001011TopIds (off n cap : Nat) : oneTopIds off n cap [false, false, true, false, true, true] false = true := by kernel_rfl
theorem b010111TopIds (off n cap : Nat) : oneTopIds off n cap [false, true, false, true, true, true] false = true := by kernel_rfl
theorem b100001TopIds (off n cap : Nat) : oneTopIds off n cap [true, false, false, false, false, true] false = true := by kernel_rfl
theorem b101101TopIds (off n cap : Nat) : oneTopIds off n cap [true, false, true, true, false, true] false = true := by kernel_rfl
theorem e110111TopIds (off n cap : Nat) : oneTopIds off n cap [true, true, false, true, true, true] true = true := by kernel_rfl
theorem b1111011TopIds (off n cap : Nat) : oneTopIds off n cap [true, true, true, true, false, true, true] false = true := by kernel_rfl
end Go.Proofs.YtkjdclpneaepkaaGreat.Bo
