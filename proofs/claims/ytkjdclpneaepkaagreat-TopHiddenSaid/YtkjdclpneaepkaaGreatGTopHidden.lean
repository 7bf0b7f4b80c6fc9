/- What the frame of TopHidden asks of the program, in parts. -/
import Derived.Test.YtkjdclpneaepkaaGreatFac
open Go
namespace Go.Proofs.YtkjdclpneaepkaaGreat.topHidden
theorem facName : Tryz.prog.funcNamed "postillion/postilliontop.TopHidden" = some 4 := by kernel_rfl
theorem facPlace : (Rows.topHiddenRow.inPlace == Tryz.prog.inPlace 4) = true := by kernel_rfl
theorem facUnf : (Rows.topHiddenRow.unfollowed == Tryz.prog.unfollowed 4) = true := by kernel_rfl
theorem facRec : (Rows.topHiddenRow.recurses == Tryz.prog.recurses 4) = true := by kernel_rfl
theorem facNamed : (Rows.topHiddenRow.named == Tryz.prog.varsNamed 4) = true := by kernel_rfl
end Go.Proofs.YtkjdclpneaepkaaGreat.topHidden
