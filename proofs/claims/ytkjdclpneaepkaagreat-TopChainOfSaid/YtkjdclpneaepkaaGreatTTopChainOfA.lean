/- TopChainOf: leaves. -/
import Derived.Test.YtkjdclpneaepkaaGreatTTopChainOf
set_option linter.unusedVariables false
open Go Go.Proofs Go.Ev Go.RowKit
namespace Go.Proofs.YtkjdclpneaepkaaGreat.Bo
theorem c00 : oneTopChainOf 0 0 = true := by kernel_rfl
theorem c01 : oneTopChainOf 0 1 = true := by kernel_rfl
theorem c12 : oneTopChainOf 1 2 = true := by kernel_rfl
end Go.Proofs.YtkjdclpneaepkaaGreat.Bo
