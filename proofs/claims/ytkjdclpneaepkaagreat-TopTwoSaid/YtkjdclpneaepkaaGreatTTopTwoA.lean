/- TopTwo: leaves. -/
import Derived.Test.YtkjdclpneaepkaaGreatTTopTwo
set_option linter.unusedVariables false
open Go Go.Ev Go.Ev.Ch Go.RowKit
namespace Go.Proofs.YtkjdclpneaepkaaGreat.Bo
theorem nil2 (y : Bool) : both (fun n => empTopTwo .ns y n) = true := by cases y <;> kernel_rfl
theorem se2 (y : Bool) : both (fun n => empTopTwo .se y n) = true := by cases y <;> kernel_rfl
theorem s012 (off n cap : Nat) : allP 2 2 (fun p => oneTopTwo false true off n cap p true) = true := by kernel_rfl
theorem s1031 (off n cap : Nat) : allL 2 (fun p => oneTopTwo true false off n cap p true) [true] = true := by kernel_rfl
theorem b00001 (off n cap : Nat) : both (fun z => oneTopTwo true z off n cap [false, false, false, false] false) = true := by kernel_rfl
theorem b00111 (off n cap : Nat) : both (fun z => oneTopTwo true z off n cap [false, false, true, true] false) = true := by kernel_rfl
theorem b01101 (off n cap : Nat) : both (fun z => oneTopTwo true z off n cap [false, true, true, false] false) = true := by kernel_rfl
theorem b10011 (off n cap : Nat) : both (fun z => oneTopTwo true z off n cap [true, false, false, true] false) = true := by kernel_rfl
theorem b11001 (off n cap : Nat) : both (fun z => oneTopTwo true z off n cap [true, true, false, false] false) = true := by kernel_rfl
theorem b11111 (off n cap : Nat) : both (fun z => oneTopTwo true z off n cap [true, true, true, true] false) = true := by kernel_rfl
end Go.Proofs.YtkjdclpneaepkaaGreat.Bo
