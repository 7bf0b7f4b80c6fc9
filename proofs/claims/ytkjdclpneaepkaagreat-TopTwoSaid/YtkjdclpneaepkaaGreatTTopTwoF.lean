/- TopTwo: leaves. -/
import Derived.Test.YtkjdclpneaepkaaGreatTTopTwo
set_option linter.unusedVariables false
open Go Go.Ev Go.Ev.Ch Go.RowKit
namespace Go.Proofs.YtkjdclpneaepkaaGreat.Bo
theorem s011 (off n cap : Nat) : allP 1 1 (fun p => oneTopTwo false true off n cap p true) = true := by kernel_rfl
theorem s1030 (off n cap : Nat) : allL 2 (fun p => oneTopTwo true false off n cap p true) [false] = true := by kernel_rfl
theorem b00000 (off n cap : Nat) : both (fun z => oneTopTwo false z off n cap [false, false, false, false] false) = true := by kernel_rfl
theorem b00110 (off n cap : Nat) : both (fun z => oneTopTwo false z off n cap [false, false, true, true] false) = true := by kernel_rfl
theorem b01100 (off n cap : Nat) : both (fun z => oneTopTwo false z off n cap [false, true, true, false] false) = true := by kernel_rfl
theorem b10010 (off n cap : Nat) : both (fun z => oneTopTwo false z off n cap [true, false, false, true] false) = true := by kernel_rfl
theorem b11000 (off n cap : Nat) : both (fun z => oneTopTwo false z off n cap [true, true, false, false] false) = true := by kernel_rfl
theorem b11110 (off n cap : Nat) : both (fun z => oneTopTwo false z off n cap [true, true, true, true] false) = true := by kernel_rfl
end Go.Proofs.YtkjdclpneaepkaaGreat.Bo
