/- What the frame of TopOrder asks of the program, in parts. -/
import Derived.Test.YtkjdclpneaepkaaGreatFac
open Go
namespace Go.Proofs.YtkjdclpneaepkaaGreat.topOrder
theorem facName : Tryz.prog.funcNamed "postillion/postilliontop.TopOrder" = some 3 := by kernel_rfl
theorem facPlace : (Rows.topOrderRow.inPlace == Tryz.prog.inPlace 3) = true := by kernel_rfl
theorem facUnf : (Rows.topOrderRow.unfollowed == Tryz.prog.unfollowed 3) = true := by kernel_rfl
theorem facRec : (Rows.topOrderRow.recurses == Tryz.prog.recurses 3) = true := by kernel_rfl
theorem facNamed : (Rows.topOrderRow.named == Tryz.prog.varsNamed 3) = true := by kernel_rfl
end Go.Proofs.YtkjdclpneaepkaaGreat.topOrder
