/- TopIds: leaves. -/
import Derived.Test.YtkjdclpneaepkaaGreatTTopIds
set_option linter.unusedVariables false
open Go Go.Ev Go.Ev.Ch Go.RowKit
namespace Go.Proofs.YtkjdclpneaepkaaGreat.Bo
theorem x11TopIds (off n cap : Nat) : allL 2 (fun p => oneTopIds off n cap p true) [true, true] = true := by kernel_rfl
theorem b000011TopIds (off n cap : Nat) : oneTopIds off n cap [false, false, false, false, true, true] false = true := by kernel_rfl
theorem b001111TopIds (off n cap : Nat) : oneTopIds off n cap [false, false, true, true, true, true] false = true := by kernel_rfl
theorem b011011TopIds (off n cap : Nat) : oneTopIds off n cap [false, true, true, false, true, true] false = true := by kernel_rfl
theorem b100101TopIds (off n cap : Nat) : oneTopIds off n cap [true, false, false, true, false, true] false = true := by kernel_rfl
theorem b1011111TopIds (off n cap : Nat) : oneTopIds off n cap [true, false, true, true, true, true, true] false = true := by kernel_rfl
theorem b111001TopIds (off n cap : Nat) : oneTopIds off n cap [true, true, true, false, false, true] false = true := by kernel_rfl
theorem e111111TopIds (off n cap : Nat) : oneTopIds off n cap [true, true, true, true, true, true] true = true := by kernel_rfl
end Go.Proofs.YtkjdclpneaepkaaGreat.Bo
