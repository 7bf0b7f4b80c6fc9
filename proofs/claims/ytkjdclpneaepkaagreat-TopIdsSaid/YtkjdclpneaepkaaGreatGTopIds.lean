/- What the frame of TopIds asks of the program, in parts. -/
import Derived.Test.YtkjdclpneaepkaaGreatFac
open Go
namespace Go.Proofs.YtkjdclpneaepkaaGreat.topIds
theorem facName : Tryz.prog.funcNamed "postillion/postilliontop.TopIds" = some 7 := by kernel_rfl
theorem facPlace : (Rows.topIdsRow.inPlace == Tryz.prog.inPlace 7) = true := by kernel_rfl
theorem facUnf : (Rows.topIdsRow.unfollowed == Tryz.prog.unfollowed 7) = true := by kernel_rfl
theorem facRec : (Rows.topIdsRow.recurses == Tryz.prog.recurses 7) = true := by kernel_rfl
theorem facNamed : (Rows.topIdsRow.named == Tryz.prog.varsNamed 7) = true := by kernel_rfl
end Go.Proofs.YtkjdclpneaepkaaGreat.topIds
