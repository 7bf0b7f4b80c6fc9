/- TopFull: leaves. -/
import Derived.Test.YtkjdclpneaepkaaGreatTTopFull
open Go
set_option linter.unusedVariables false
open Go.Proofs Go.Ev Go.RowKit
namespace Go.Proofs.YtkjdclpneaepkaaGreat.Bo
theorem f11b : allB (fun i => oneTopFull 11 (Nat.add 4 i)) 4 = true := by kernel_rfl
theorem f8b : allB (fun i => oneTopFull 8 (Nat.add 4 i)) 4 = true := by kernel_rfl
theorem f5b : allB (fun i => oneTopFull 5 (Nat.add 4 i)) 4 = true := by kernel_rfl
theorem f2b : allB (fun i => oneTopFull 2 (Nat.add 4 i)) 4 = true := by kernel_rfl
end Go.Proofs.YtkjdclpneaepkaaGreat.Bo
