/- TopRequests: rows of requests, reckoned. -/
import Derived.Test.YtkjdclpneaepkaaGreatEvR1
set_option linter.unusedVariables false
open Go Go.Ev Go.Proofs
namespace Go.Proofs.YtkjdclpneaepkaaGreat.Rq
theorem d012 (x0 : AV) : S x0 [2, 1, 0] (tree 2 [2, 1, 0]) = true := by kernel_rfl
theorem d032 (x0 : AV) : S x0 [2, 3, 0] (tree 2 [2, 3, 0]) = true := by kernel_rfl
theorem d104 (x0 : AV) : S x0 [4, 0, 1] (tree 2 [4, 0, 1]) = true := by kernel_rfl
theorem d140 (x0 : AV) : S x0 [0, 4, 1] (tree 2 [0, 4, 1]) = true := by kernel_rfl
theorem d213 (x0 : AV) : S x0 [3, 1, 2] (tree 2 [3, 1, 2]) = true := by kernel_rfl
theorem d243 (x0 : AV) : S x0 [3, 4, 2] (tree 2 [3, 4, 2]) = true := by kernel_rfl
theorem d320 (x0 : AV) : S x0 [0, 2, 3] (tree 2 [0, 2, 3]) = true := by kernel_rfl
theorem d402 (x0 : AV) : S x0 [2, 0, 4] (tree 2 [2, 0, 4]) = true := by kernel_rfl
theorem d423 (x0 : AV) : S x0 [3, 2, 4] (tree 2 [3, 2, 4]) = true := by kernel_rfl
end Go.Proofs.YtkjdclpneaepkaaGreat.Rq
