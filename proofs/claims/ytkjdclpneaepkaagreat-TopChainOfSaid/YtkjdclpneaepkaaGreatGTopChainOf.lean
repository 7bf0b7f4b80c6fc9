/- What the frame of TopChainOf asks of the program, in parts. -/
import Derived.Test.YtkjdclpneaepkaaGreatFac
open Go
namespace Go.Proofs.YtkjdclpneaepkaaGreat.topChainOf
theorem facName : Tryz.prog.funcNamed "postillion/postilliontop.TopChainOf" = some 9 := by kernel_rfl
theorem facPlace : (Rows.topChainOfRow.inPlace == Tryz.prog.inPlace 9) = true := by kernel_rfl
theorem facUnf : (Rows.topChainOfRow.unfollowed == Tryz.prog.unfollowed 9) = true := by kernel_rfl
theorem facRec : (Rows.topChainOfRow.recurses == Tryz.prog.recurses 9) = true := by kernel_rfl
theorem facNamed : (Rows.topChainOfRow.named == Tryz.prog.varsNamed 9) = true := by kernel_rfl
end Go.Proofs.YtkjdclpneaepkaaGreat.topChainOf
