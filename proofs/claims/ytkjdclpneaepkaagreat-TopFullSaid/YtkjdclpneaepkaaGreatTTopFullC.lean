/- TopFull: leaves. -/
import Derived.Test.YtkjdclpneaepkaaGreatTTopFull
open Go
set_option linter.unusedVariables false
open Go.Proofs Go.Ev Go.RowKit
namespace Go.Proofs.YtkjdclpneaepkaaGreat.Bo
theorem f11a : allB (oneTopFull 11) 4 = true := by kernel_rfl
theorem f8a : allB (oneTopFull 8) 4 = true := by kernel_rfl
theorem f5a : allB (oneTopFull 5) 4 = true := by kernel_rfl
theorem f2a : allB (oneTopFull 2) 4 = true := by kernel_rfl
end Go.Proofs.YtkjdclpneaepkaaGreat.Bo
