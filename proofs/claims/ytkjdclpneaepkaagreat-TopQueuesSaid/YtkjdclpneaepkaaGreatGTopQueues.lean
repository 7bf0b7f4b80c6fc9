/- What the frame of TopQueues asks of the program, in parts. -/
import Derived.Test.YtkjdclpneaepkaaGreatFac
open Go
namespace Go.Proofs.YtkjdclpneaepkaaGreat.topQueues
theorem facName : Tryz.prog.funcNamed "postillion/postilliontop.TopQueues" = some 11 := by kernel_rfl
theorem facPlace : (Rows.topQueuesRow.inPlace == Tryz.prog.inPlace 11) = true := by kernel_rfl
theorem facUnf : (Rows.topQueuesRow.unfollowed == Tryz.prog.unfollowed 11) = true := by kernel_rfl
theorem facRec : (Rows.topQueuesRow.recurses == Tryz.prog.recurses 11) = true := by kernel_rfl
theorem facNamed : (Rows.topQueuesRow.named == Tryz.prog.varsNamed 11) = true := by kernel_rfl
end Go.Proofs.YtkjdclpneaepkaaGreat.topQueues
