/- TopRequests: rows of requests, reckoned. -/
import Derived.Test.YtkjdclpneaepkaaGreatEvR1
set_option linter.unusedVariables false
open Go Go.Ev Go.Proofs
namespace Go.Proofs.YtkjdclpneaepkaaGreat.Rq
theorem m1 (x0 : AV) : S x0 [1] (tree 1 [1]) = true := by kernel_rfl
theorem d021 (x0 : AV) : S x0 [1, 2, 0] (tree 2 [1, 2, 0]) = true := by kernel_rfl
theorem d042 (x0 : AV) : S x0 [2, 4, 0] (tree 2 [2, 4, 0]) = true := by kernel_rfl
theorem d124 (x0 : AV) : S x0 [4, 2, 1] (tree 2 [4, 2, 1]) = true := by kernel_rfl
theorem d201 (x0 : AV) : S x0 [1, 0, 2] (tree 2 [1, 0, 2]) = true := by kernel_rfl
theorem d231 (x0 : AV) : S x0 [1, 3, 2] (tree 2 [1, 3, 2]) = true := by kernel_rfl
theorem d304 (x0 : AV) : S x0 [4, 0, 3] (tree 2 [4, 0, 3]) = true := by kernel_rfl
theorem d340 (x0 : AV) : S x0 [0, 4, 3] (tree 2 [0, 4, 3]) = true := by kernel_rfl
theorem d412 (x0 : AV) : S x0 [2, 1, 4] (tree 2 [2, 1, 4]) = true := by kernel_rfl
theorem d432 (x0 : AV) : S x0 [2, 3, 4] (tree 2 [2, 3, 4]) = true := by kernel_rfl
end Go.Proofs.YtkjdclpneaepkaaGreat.Rq
