/- TopQueues: all states that can come. -/
import Derived.Test.YtkjdclpneaepkaaGreatTTopQueuesA
import Derived.Test.YtkjdclpneaepkaaGreatTTopQueuesB
import Derived.Test.YtkjdclpneaepkaaGreatTTopQueuesC
import Derived.Test.YtkjdclpneaepkaaGreatEv9b
namespace Go.Proofs.YtkjdclpneaepkaaGreat.Qu
theorem every : AllOk := every_of treeA treeB treeC
end Go.Proofs.YtkjdclpneaepkaaGreat.Qu
