/- TopRequests: rows of requests, reckoned. -/
import Derived.Test.YtkjdclpneaepkaaGreatEvR1
set_option linter.unusedVariables false
open Go Go.Ev Go.Proofs
namespace Go.Proofs.YtkjdclpneaepkaaGreat.Rq
theorem m3 (x0 : AV) : S x0 [3] (tree 1 [3]) = true := by kernel_rfl
theorem d024 (x0 : AV) : S x0 [4, 2, 0] (tree 2 [4, 2, 0]) = true := by kernel_rfl
theorem d102 (x0 : AV) : S x0 [2, 0, 1] (tree 2 [2, 0, 1]) = true := by kernel_rfl
theorem d132 (x0 : AV) : S x0 [2, 3, 1] (tree 2 [2, 3, 1]) = true := by kernel_rfl
theorem d204 (x0 : AV) : S x0 [4, 0, 2] (tree 2 [4, 0, 2]) = true := by kernel_rfl
theorem d240 (x0 : AV) : S x0 [0, 4, 2] (tree 2 [0, 4, 2]) = true := by kernel_rfl
theorem d312 (x0 : AV) : S x0 [2, 1, 3] (tree 2 [2, 1, 3]) = true := by kernel_rfl
theorem d342 (x0 : AV) : S x0 [2, 4, 3] (tree 2 [2, 4, 3]) = true := by kernel_rfl
theorem d420 (x0 : AV) : S x0 [0, 2, 4] (tree 2 [0, 2, 4]) = true := by kernel_rfl
end Go.Proofs.YtkjdclpneaepkaaGreat.Rq
