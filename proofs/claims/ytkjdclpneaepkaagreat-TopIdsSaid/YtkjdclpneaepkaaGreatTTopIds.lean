/- TopIds: what is reckoned: the rest of the law behind 'begun', for a list that begins so. -/
import Derived.Test.YtkjdclpneaepkaaGreatEv57
set_option linter.unusedVariables false
open Go Go.Ev Go.Ev.Ch Go.RowKit
namespace Go.Proofs.YtkjdclpneaepkaaGreat.Bo
noncomputable def spTopIds (p : List Bool) (ex : Bool) (id : Nat) : Option (SpF (List Bool)) := bif Nat.beq id 7 then some (Ftest p ex 16 6 8) else bif Nat.beq id 12 then some (Fload 37 6) else none
noncomputable def oneTopIds (off n cap : Nat) (p : List Bool) (ex : Bool) : Bool := runC Tryz.f7 (spTopIds p ex) (restC Tryz.f7 4) (α0 off n cap)
noncomputable def empTopIds (x : AV) : Bool := runD Tryz.f7 noSp (restC Tryz.f7 4) (setP (some x) (path 0) .lf) .e
end Go.Proofs.YtkjdclpneaepkaaGreat.Bo
