/- TopRequests: rows of requests, reckoned. -/
import Derived.Test.YtkjdclpneaepkaaGreatEvR1
set_option linter.unusedVariables false
open Go Go.Ev Go.Proofs
namespace Go.Proofs.YtkjdclpneaepkaaGreat.Rq
theorem m2 (x0 : AV) : S x0 [2] (tree 1 [2]) = true := by kernel_rfl
theorem d023 (x0 : AV) : S x0 [3, 2, 0] (tree 2 [3, 2, 0]) = true := by kernel_rfl
theorem d043 (x0 : AV) : S x0 [3, 4, 0] (tree 2 [3, 4, 0]) = true := by kernel_rfl
theorem d130 (x0 : AV) : S x0 [0, 3, 1] (tree 2 [0, 3, 1]) = true := by kernel_rfl
theorem d203 (x0 : AV) : S x0 [3, 0, 2] (tree 2 [3, 0, 2]) = true := by kernel_rfl
theorem d234 (x0 : AV) : S x0 [4, 3, 2] (tree 2 [4, 3, 2]) = true := by kernel_rfl
theorem d310 (x0 : AV) : S x0 [0, 1, 3] (tree 2 [0, 1, 3]) = true := by kernel_rfl
theorem d341 (x0 : AV) : S x0 [1, 4, 3] (tree 2 [1, 4, 3]) = true := by kernel_rfl
theorem d413 (x0 : AV) : S x0 [3, 1, 4] (tree 2 [3, 1, 4]) = true := by kernel_rfl
end Go.Proofs.YtkjdclpneaepkaaGreat.Rq
