/- TopOrder: what is reckoned: the rest of the law behind 'begun', for a list that begins so. -/
import Derived.Test.YtkjdclpneaepkaaGreatEv57
set_option linter.unusedVariables false
open Go Go.Ev Go.Ev.Ch Go.RowKit
namespace Go.Proofs.YtkjdclpneaepkaaGreat.Bo
noncomputable def spTopOrder (p : List Bool) (ex : Bool) (id : Nat) : Option (SpF (List Bool)) := bif Nat.beq id 10 then some (Ftest p ex 30 11 6) else bif Nat.beq id 13 then some (Fload 41 11) else bif Nat.beq id 23 then some (Fload 63 13) else bif Nat.beq id 31 then some (Floadn 93 15) else none
noncomputable def oneTopOrder (off n cap : Nat) (p : List Bool) (ex : Bool) : Bool := runC Tryz.f3 (spTopOrder p ex) (restC Tryz.f3 4) (α0 off n cap)
noncomputable def empTopOrder (x : AV) : Bool := runD Tryz.f3 noSp (restC Tryz.f3 4) (setP (some x) (path 0) .lf) .e
end Go.Proofs.YtkjdclpneaepkaaGreat.Bo
