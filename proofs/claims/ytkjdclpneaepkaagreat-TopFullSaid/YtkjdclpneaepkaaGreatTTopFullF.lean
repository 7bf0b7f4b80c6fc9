/- TopFull: leaves. -/
import Derived.Test.YtkjdclpneaepkaaGreatTTopFull
open Go
set_option linter.unusedVariables false
open Go.Proofs Go.Ev Go.RowKit
namespace Go.Proofs.YtkjdclpneaepkaaGreat.Bo
theorem f10b : allB (fun i => oneTopFull 10 (Nat.add 4 i)) 4 = true := by kernel_rfl
theorem f7b : allB (fun i => oneTopFull 7 (Nat.add 4 i)) 4 = true := by kernel_rfl
theorem f4b : allB (fun i => oneTopFull 4 (Nat.add 4 i)) 4 = true := by kernel_rfl
theorem f1b : allB (fun i => oneTopFull 1 (Nat.add 4 i)) 4 = true := by kernel_rfl
end Go.Proofs.YtkjdclpneaepkaaGreat.Bo
