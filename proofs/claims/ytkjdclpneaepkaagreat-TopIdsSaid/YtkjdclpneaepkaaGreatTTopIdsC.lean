/- TopIds: leaves. -/
import Derived.Test.YtkjdclpneaepkaaGreatTTopIds
set_option linter.unusedVariables false
open Go Go.Ev Go.Ev.Ch Go.RowKit
namespace Go.Proofs.YtkjdclpneaepkaaGreat.Bo
theorem x00TopIds (off n cap : Nat) : allL 2 (fun p => oneTopIds off n cap p true) [false, false] = true := by kernel_rfl
theorem b000000TopIds (off n cap : Nat) : oneTopIds off n cap [false, false, false, false, false, false] false = true := by kernel_rfl
theorem b001100TopIds (off n cap : Nat) : oneTopIds off n cap [false, false, true, true, false, false] false = true := by kernel_rfl
theorem b011000TopIds (off n cap : Nat) : oneTopIds off n cap [false, true, true, false, false, false] false = true := by kernel_rfl
theorem b100010TopIds (off n cap : Nat) : oneTopIds off n cap [true, false, false, false, true, false] false = true := by kernel_rfl
theorem b101110TopIds (off n cap : Nat) : oneTopIds off n cap [true, false, true, true, true, false] false = true := by kernel_rfl
theorem b1101110TopIds (off n cap : Nat) : oneTopIds off n cap [true, true, false, true, true, true, false] false = true := by kernel_rfl
theorem e111110TopIds (off n cap : Nat) : oneTopIds off n cap [true, true, true, true, true, false] true = true := by kernel_rfl
end Go.Proofs.YtkjdclpneaepkaaGreat.Bo
