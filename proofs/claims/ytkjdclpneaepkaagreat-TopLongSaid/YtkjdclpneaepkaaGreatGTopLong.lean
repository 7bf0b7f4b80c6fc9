/- What the frame of TopLong asks of the program, in parts. -/
import Derived.Test.YtkjdclpneaepkaaGreatFac
open Go
namespace Go.Proofs.YtkjdclpneaepkaaGreat.topLong
theorem facName : Tryz.prog.funcNamed "postillion/postilliontop.TopLong" = some 10 := by kernel_rfl
theorem facPlace : (Rows.topLongRow.inPlace == Tryz.prog.inPlace 10) = true := by kernel_rfl
theorem facUnf : (Rows.topLongRow.unfollowed == Tryz.prog.unfollowed 10) = true := by kernel_rfl
theorem facRec : (Rows.topLongRow.recurses == Tryz.prog.recurses 10) = true := by kernel_rfl
theorem facNamed : (Rows.topLongRow.named == Tryz.prog.varsNamed 10) = true := by kernel_rfl
end Go.Proofs.YtkjdclpneaepkaaGreat.topLong
