/- What the frame of TopFull asks of the program, in parts. -/
import Derived.Test.YtkjdclpneaepkaaGreatFac
open Go
namespace Go.Proofs.YtkjdclpneaepkaaGreat.topFull
theorem facName : Tryz.prog.funcNamed "postillion/postilliontop.TopFull" = some 5 := by kernel_rfl
theorem facPlace : (Rows.topFullRow.inPlace == Tryz.prog.inPlace 5) = true := by kernel_rfl
theorem facUnf : (Rows.topFullRow.unfollowed == Tryz.prog.unfollowed 5) = true := by kernel_rfl
theorem facRec : (Rows.topFullRow.recurses == Tryz.prog.recurses 5) = true := by kernel_rfl
theorem facNamed : (Rows.topFullRow.named == Tryz.prog.varsNamed 5) = true := by kernel_rfl
end Go.Proofs.YtkjdclpneaepkaaGreat.topFull
