/- TopQueues: states reckoned (A). -/
import Derived.Test.YtkjdclpneaepkaaGreatEv96
open Go Go.Ev Go.Proofs
namespace Go.Proofs.YtkjdclpneaepkaaGreat.Qu
theorem treeA : S [] (tree 6 []) = true := by kernel_rfl
end Go.Proofs.YtkjdclpneaepkaaGreat.Qu
