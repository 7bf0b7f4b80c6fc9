/- What the frame of TopStatus asks of the program, in parts. -/
import Derived.Test.YtkjdclpneaepkaaGreatFac
open Go
namespace Go.Proofs.YtkjdclpneaepkaaGreat.topStatus
theorem facName : Tryz.prog.funcNamed "postillion/postilliontop.TopStatus" = some 13 := by kernel_rfl
theorem facPlace : (Rows.topStatusRow.inPlace == Tryz.prog.inPlace 13) = true := by kernel_rfl
theorem facUnf : (Rows.topStatusRow.unfollowed == Tryz.prog.unfollowed 13) = true := by kernel_rfl
theorem facRec : (Rows.topStatusRow.recurses == Tryz.prog.recurses 13) = true := by kernel_rfl
theorem facNamed : (Rows.topStatusRow.named == Tryz.prog.varsNamed 13) = true := by kernel_rfl
end Go.Proofs.YtkjdclpneaepkaaGreat.topStatus
