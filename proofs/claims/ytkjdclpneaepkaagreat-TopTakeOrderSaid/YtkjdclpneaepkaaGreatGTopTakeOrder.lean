/- What the frame of TopTakeOrder asks of the program, in parts. -/
import Derived.Test.YtkjdclpneaepkaaGreatFac
open Go
namespace Go.Proofs.YtkjdclpneaepkaaGreat.topTakeOrder
theorem facName : Tryz.prog.funcNamed "postillion/postilliontop.TopTakeOrder" = some 12 := by kernel_rfl
theorem facPlace : (Rows.topTakeOrderRow.inPlace == Tryz.prog.inPlace 12) = true := by kernel_rfl
theorem facUnf : (Rows.topTakeOrderRow.unfollowed == Tryz.prog.unfollowed 12) = true := by kernel_rfl
theorem facRec : (Rows.topTakeOrderRow.recurses == Tryz.prog.recurses 12) = true := by kernel_rfl
theorem facNamed : (Rows.topTakeOrderRow.named == Tryz.prog.varsNamed 12) = true := by kernel_rfl
end Go.Proofs.YtkjdclpneaepkaaGreat.topTakeOrder
