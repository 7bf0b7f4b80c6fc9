/- TopFull: leaves. -/
import Derived.Test.YtkjdclpneaepkaaGreatTTopFull
open Go
set_option linter.unusedVariables false
open Go.Proofs Go.Ev Go.RowKit
namespace Go.Proofs.YtkjdclpneaepkaaGreat.Bo
theorem f12b : allB (fun i => oneTopFull 12 (Nat.add 4 i)) 4 = true := by kernel_rfl
theorem f9b : allB (fun i => oneTopFull 9 (Nat.add 4 i)) 4 = true := by kernel_rfl
theorem f6b : allB (fun i => oneTopFull 6 (Nat.add 4 i)) 4 = true := by kernel_rfl
theorem f3b : allB (fun i => oneTopFull 3 (Nat.add 4 i)) 4 = true := by kernel_rfl
theorem f0b : allB (fun i => oneTopFull 0 (Nat.add 4 i)) 4 = true := by kernel_rfl
end Go.Proofs.YtkjdclpneaepkaaGreat.Bo
