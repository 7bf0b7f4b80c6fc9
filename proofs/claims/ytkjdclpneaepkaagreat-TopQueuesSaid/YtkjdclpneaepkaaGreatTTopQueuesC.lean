/- TopQueues: states reckoned (C). -/
import Derived.Test.YtkjdclpneaepkaaGreatEv96
open Go Go.Ev Go.Proofs
namespace Go.Proofs.YtkjdclpneaepkaaGreat.Qu
theorem treeC : S (false :: t6) (tree 3 (false :: t6)) = true := by kernel_rfl
end Go.Proofs.YtkjdclpneaepkaaGreat.Qu
