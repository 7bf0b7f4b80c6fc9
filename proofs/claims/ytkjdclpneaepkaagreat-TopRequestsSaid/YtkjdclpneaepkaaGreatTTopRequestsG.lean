/- TopRequests: rows of requests, reckoned. -/
import Derived.Test.YtkjdclpneaepkaaGreatEvR1
set_option linter.unusedVariables false
open Go Go.Ev Go.Proofs
namespace Go.Proofs.YtkjdclpneaepkaaGreat.Rq
theorem d013 (x0 : AV) : S x0 [3, 1, 0] (tree 2 [3, 1, 0]) = true := by kernel_rfl
theorem d034 (x0 : AV) : S x0 [4, 3, 0] (tree 2 [4, 3, 0]) = true := by kernel_rfl
theorem d120 (x0 : AV) : S x0 [0, 2, 1] (tree 2 [0, 2, 1]) = true := by kernel_rfl
theorem d142 (x0 : AV) : S x0 [2, 4, 1] (tree 2 [2, 4, 1]) = true := by kernel_rfl
theorem d214 (x0 : AV) : S x0 [4, 1, 2] (tree 2 [4, 1, 2]) = true := by kernel_rfl
theorem d301 (x0 : AV) : S x0 [1, 0, 3] (tree 2 [1, 0, 3]) = true := by kernel_rfl
theorem d321 (x0 : AV) : S x0 [1, 2, 3] (tree 2 [1, 2, 3]) = true := by kernel_rfl
theorem d403 (x0 : AV) : S x0 [3, 0, 4] (tree 2 [3, 0, 4]) = true := by kernel_rfl
theorem d430 (x0 : AV) : S x0 [0, 3, 4] (tree 2 [0, 3, 4]) = true := by kernel_rfl
theorem m (x0 : AV) : S x0 [] (chk []) = true := by kernel_rfl
theorem slot0 (x0 : AV) : getP (path 0) (rA (r3 x0)) = some x0 := by kernel_rfl
end Go.Proofs.YtkjdclpneaepkaaGreat.Rq
