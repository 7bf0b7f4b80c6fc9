/- TopFull: what is reckoned: the rest of the law behind the two numbers. -/
import Derived.Test.YtkjdclpneaepkaaGreatEv65
open Go
set_option linter.unusedVariables false
open Go.Proofs Go.Ev Go.RowKit
namespace Go.Proofs.YtkjdclpneaepkaaGreat.Bo
noncomputable def oneTopFull (n o : Nat) : Bool := runD Tryz.f5 noSp (restC Tryz.f5 5) (setP (some (.i .i64 (.ofNat o))) (path 1) (setP (some (.i .i64 (.ofNat n))) (path 0) .lf)) .e
end Go.Proofs.YtkjdclpneaepkaaGreat.Bo
