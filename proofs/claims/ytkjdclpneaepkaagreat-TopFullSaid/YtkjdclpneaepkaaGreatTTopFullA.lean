/- TopFull: leaves. -/
import Derived.Test.YtkjdclpneaepkaaGreatTTopFull
open Go
set_option linter.unusedVariables false
open Go.Proofs Go.Ev Go.RowKit
namespace Go.Proofs.YtkjdclpneaepkaaGreat.Bo
theorem f12a : allB (oneTopFull 12) 4 = true := by kernel_rfl
theorem f9a : allB (oneTopFull 9) 4 = true := by kernel_rfl
theorem f6a : allB (oneTopFull 6) 4 = true := by kernel_rfl
theorem f3a : allB (oneTopFull 3) 4 = true := by kernel_rfl
theorem f0a : allB (oneTopFull 0) 4 = true := by kernel_rfl
end Go.Proofs.YtkjdclpneaepkaaGreat.Bo
