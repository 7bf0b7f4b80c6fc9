/- What the frame of TopTwo asks of the program, in parts. -/
import Derived.Test.YtkjdclpneaepkaaGreatFac
open Go
namespace Go.Proofs.YtkjdclpneaepkaaGreat.topTwo
theorem facName : Tryz.prog.funcNamed "postillion/postilliontop.TopTwo" = some 8 := by kernel_rfl
theorem facPlace : (Rows.topTwoRow.inPlace == Tryz.prog.inPlace 8) = true := by kernel_rfl
theorem facUnf : (Rows.topTwoRow.unfollowed == Tryz.prog.unfollowed 8) = true := by kernel_rfl
theorem facRec : (Rows.topTwoRow.recurses == Tryz.prog.recurses 8) = true := by kernel_rfl
theorem facNamed : (Rows.topTwoRow.named == Tryz.prog.varsNamed 8) = true := by kernel_rfl
end Go.Proofs.YtkjdclpneaepkaaGreat.topTwo
