/- TopQueues: states reckoned (B). -/
import Derived.Test.YtkjdclpneaepkaaGreatEv96
open Go Go.Ev Go.Proofs
namespace Go.Proofs.YtkjdclpneaepkaaGreat.Qu
theorem treeB : S (true :: t6) (tree 3 (true :: t6)) = true := by kernel_rfl
end Go.Proofs.YtkjdclpneaepkaaGreat.Qu
