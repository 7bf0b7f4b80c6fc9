/- TopChainOf: leaves. -/
import Derived.Test.YtkjdclpneaepkaaGreatTTopChainOf
set_option linter.unusedVariables false
open Go Go.Proofs Go.Ev Go.RowKit
namespace Go.Proofs.YtkjdclpneaepkaaGreat.Bo
theorem c11 : oneTopChainOf 1 1 = true := by kernel_rfl
theorem c20 : oneTopChainOf 2 0 = true := by kernel_rfl
theorem midA (k : T AV → Hp → Pa → Bool) : mid k = k litF litH litN := by kernel_rfl
end Go.Proofs.YtkjdclpneaepkaaGreat.Bo
