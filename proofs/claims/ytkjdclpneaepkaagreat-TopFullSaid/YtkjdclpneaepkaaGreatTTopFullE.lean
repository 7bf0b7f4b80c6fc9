/- TopFull: leaves. -/
import Derived.Test.YtkjdclpneaepkaaGreatTTopFull
open Go
set_option linter.unusedVariables false
open Go.Proofs Go.Ev Go.RowKit
namespace Go.Proofs.YtkjdclpneaepkaaGreat.Bo
theorem f10a : allB (oneTopFull 10) 4 = true := by kernel_rfl
theorem f7a : allB (oneTopFull 7) 4 = true := by kernel_rfl
theorem f4a : allB (oneTopFull 4) 4 = true := by kernel_rfl
theorem f1a : allB (oneTopFull 1) 4 = true := by kernel_rfl
end Go.Proofs.YtkjdclpneaepkaaGreat.Bo
