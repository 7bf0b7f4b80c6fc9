/- TopTakeOrder: what is reckoned: the rest of the law behind 'begun', for a list that begins so. -/
import Derived.Test.YtkjdclpneaepkaaGreatEv57
set_option linter.unusedVariables false
open Go Go.Ev Go.Ev.Ch Go.RowKit
namespace Go.Proofs.YtkjdclpneaepkaaGreat.Bo
noncomputable def spTopTakeOrder (p : List Bool) (ex : Bool) (id : Nat) : Option (SpF (List Bool)) := bif Nat.beq id 15 then some (Ftest p ex 42 11 8) else bif Nat.beq id 18 then some (Fload 53 11) else none
noncomputable def oneTopTakeOrder (off n cap : Nat) (p : List Bool) (ex : Bool) : Bool := runC Tryz.f12 (spTopTakeOrder p ex) (restC Tryz.f12 4) (α0 off n cap)
noncomputable def empTopTakeOrder (x : AV) : Bool := runD Tryz.f12 noSp (restC Tryz.f12 4) (setP (some x) (path 0) .lf) .e
end Go.Proofs.YtkjdclpneaepkaaGreat.Bo
