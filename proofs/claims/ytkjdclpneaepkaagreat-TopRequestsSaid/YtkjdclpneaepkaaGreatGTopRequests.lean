/- What the frame of TopRequests asks of the program, in parts. -/
import Derived.Test.YtkjdclpneaepkaaGreatFac
open Go
namespace Go.Proofs.YtkjdclpneaepkaaGreat.topRequests
theorem facName : Tryz.prog.funcNamed "postillion/postilliontop.TopRequests" = some 6 := by kernel_rfl
theorem facPlace : (Rows.topRequestsRow.inPlace == Tryz.prog.inPlace 6) = true := by kernel_rfl
theorem facUnf : (Rows.topRequestsRow.unfollowed == Tryz.prog.unfollowed 6) = true := by kernel_rfl
theorem facRec : (Rows.topRequestsRow.recurses == Tryz.prog.recurses 6) = true := by kernel_rfl
theorem facNamed : (Rows.topRequestsRow.named == Tryz.prog.varsNamed 6) = true := by kernel_rfl
end Go.Proofs.YtkjdclpneaepkaaGreat.topRequests
