/- TopChainOf: leaves. -/
import Derived.Test.YtkjdclpneaepkaaGreatTTopChainOf
set_option linter.unusedVariables false
open Go Go.Proofs Go.Ev Go.RowKit
namespace Go.Proofs.YtkjdclpneaepkaaGreat.Bo
theorem c02 : oneTopChainOf 0 2 = true := by kernel_rfl
theorem c10 : oneTopChainOf 1 0 = true := by kernel_rfl
theorem c21 : oneTopChainOf 2 1 = true := by kernel_rfl
end Go.Proofs.YtkjdclpneaepkaaGreat.Bo
