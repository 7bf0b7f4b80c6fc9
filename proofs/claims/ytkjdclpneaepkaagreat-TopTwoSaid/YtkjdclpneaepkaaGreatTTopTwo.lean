/- TopTwo: what is reckoned: the rest of the law behind 'begun', for a list that begins so. -/
import Derived.Test.YtkjdclpneaepkaaGreatEv75
set_option linter.unusedVariables false
open Go Go.Ev Go.Ev.Ch Go.RowKit
namespace Go.Proofs.YtkjdclpneaepkaaGreat.Bo
noncomputable def spTopTwo (p : List Bool) (ex : Bool) (id : Nat) : Option (SpF (List Bool)) := bif Nat.beq id 11 then some (FtestN [0, 1, 2, 8, 10, 12, 13, 14] p ex 48 14 6) else bif Nat.beq id 14 then some (Fload 59 14) else none
noncomputable def αTwo (y n : Bool) (off len cap : Nat) : T AV := setP (some (.b n)) (path 2) (setP (some (.b y)) (path 1) (α0 off len cap))
noncomputable def oneTopTwo (y n : Bool) (off len cap : Nat) (p : List Bool) (ex : Bool) : Bool := runC Tryz.f8 (spTopTwo p ex) (restC Tryz.f8 4) (αTwo y n off len cap)
noncomputable def empTopTwo (x : AV) (y n : Bool) : Bool := runD Tryz.f8 noSp (restC Tryz.f8 4) (setP (some (.b n)) (path 2) (setP (some (.b y)) (path 1) (setP (some x) (path 0) .lf))) .e
noncomputable def both (f : Bool → Bool) : Bool := Bool.rec (motive := fun _ => Bool) false (f true) (f false)
theorem both_ok {f : Bool → Bool} (h : both f = true) (b : Bool) : f b = true := by
  unfold both at h
  cases e : f false with
  | false => rw [e] at h; cases h
  | true =>
    rw [e] at h
    cases b with
    | false => exact e
    | true => exact h
end Go.Proofs.YtkjdclpneaepkaaGreat.Bo
