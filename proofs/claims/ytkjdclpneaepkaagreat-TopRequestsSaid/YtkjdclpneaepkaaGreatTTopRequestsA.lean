/- TopRequests: rows of requests, reckoned. -/
import Derived.Test.YtkjdclpneaepkaaGreatEvR1
set_option linter.unusedVariables false
open Go Go.Ev Go.Proofs
namespace Go.Proofs.YtkjdclpneaepkaaGreat.Rq
theorem m0 (x0 : AV) : S x0 [0] (tree 1 [0]) = true := by kernel_rfl
theorem d014 (x0 : AV) : S x0 [4, 1, 0] (tree 2 [4, 1, 0]) = true := by kernel_rfl
theorem d041 (x0 : AV) : S x0 [1, 4, 0] (tree 2 [1, 4, 0]) = true := by kernel_rfl
theorem d123 (x0 : AV) : S x0 [3, 2, 1] (tree 2 [3, 2, 1]) = true := by kernel_rfl
theorem d143 (x0 : AV) : S x0 [3, 4, 1] (tree 2 [3, 4, 1]) = true := by kernel_rfl
theorem d230 (x0 : AV) : S x0 [0, 3, 2] (tree 2 [0, 3, 2]) = true := by kernel_rfl
theorem d302 (x0 : AV) : S x0 [2, 0, 3] (tree 2 [2, 0, 3]) = true := by kernel_rfl
theorem d324 (x0 : AV) : S x0 [4, 2, 3] (tree 2 [4, 2, 3]) = true := by kernel_rfl
theorem d410 (x0 : AV) : S x0 [0, 1, 4] (tree 2 [0, 1, 4]) = true := by kernel_rfl
theorem d431 (x0 : AV) : S x0 [1, 3, 4] (tree 2 [1, 3, 4]) = true := by kernel_rfl
end Go.Proofs.YtkjdclpneaepkaaGreat.Rq
