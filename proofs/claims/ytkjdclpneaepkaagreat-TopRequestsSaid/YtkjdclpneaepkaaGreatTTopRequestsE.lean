/- TopRequests: rows of requests, reckoned. -/
import Derived.Test.YtkjdclpneaepkaaGreatEvR1
set_option linter.unusedVariables false
open Go Go.Ev Go.Proofs
namespace Go.Proofs.YtkjdclpneaepkaaGreat.Rq
theorem m4 (x0 : AV) : S x0 [4] (tree 1 [4]) = true := by kernel_rfl
theorem d031 (x0 : AV) : S x0 [1, 3, 0] (tree 2 [1, 3, 0]) = true := by kernel_rfl
theorem d103 (x0 : AV) : S x0 [3, 0, 1] (tree 2 [3, 0, 1]) = true := by kernel_rfl
theorem d134 (x0 : AV) : S x0 [4, 3, 1] (tree 2 [4, 3, 1]) = true := by kernel_rfl
theorem d210 (x0 : AV) : S x0 [0, 1, 2] (tree 2 [0, 1, 2]) = true := by kernel_rfl
theorem d241 (x0 : AV) : S x0 [1, 4, 2] (tree 2 [1, 4, 2]) = true := by kernel_rfl
theorem d314 (x0 : AV) : S x0 [4, 1, 3] (tree 2 [4, 1, 3]) = true := by kernel_rfl
theorem d401 (x0 : AV) : S x0 [1, 0, 4] (tree 2 [1, 0, 4]) = true := by kernel_rfl
theorem d421 (x0 : AV) : S x0 [1, 2, 4] (tree 2 [1, 2, 4]) = true := by kernel_rfl
end Go.Proofs.YtkjdclpneaepkaaGreat.Rq
