/- TopIds: leaves. -/
import Derived.Test.YtkjdclpneaepkaaGreatTTopIds
set_option linter.unusedVariables false
open Go Go.Ev Go.Ev.Ch Go.RowKit
namespace Go.Proofs.YtkjdclpneaepkaaGreat.Bo
theorem x100TopIds (off n cap : Nat) : allL 2 (fun p => oneTopIds off n cap p true) [true, false, false] = true := by kernel_rfl
theorem b001000TopIds (off n cap : Nat) : oneTopIds off n cap [false, false, true, false, false, false] false = true := by kernel_rfl
theorem b010100TopIds (off n cap : Nat) : oneTopIds off n cap [false, true, false, true, false, false] false = true := by kernel_rfl
theorem b0111110TopIds (off n cap : Nat) : oneTopIds off n cap [false, true, true, true, true, true, false] false = true := by kernel_rfl
theorem b101010TopIds (off n cap : Nat) : oneTopIds off n cap [true, false, true, false, true, false] false = true := by kernel_rfl
theorem b110100TopIds (off n cap : Nat) : oneTopIds off n cap [true, true, false, true, false, false] false = true := by kernel_rfl
theorem b111100TopIds (off n cap : Nat) : oneTopIds off n cap [true, true, true, true, false, false] false = true := by kernel_rfl
end Go.Proofs.YtkjdclpneaepkaaGreat.Bo
