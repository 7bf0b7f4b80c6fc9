/- TopTwo: leaves. -/
import Derived.Test.YtkjdclpneaepkaaGreatTTopTwo
set_option linter.unusedVariables false
open Go Go.Ev Go.Ev.Ch Go.RowKit
namespace Go.Proofs.YtkjdclpneaepkaaGreat.Bo
theorem s0031 (off n cap : Nat) : allL 2 (fun p => oneTopTwo false false off n cap p true) [true] = true := by kernel_rfl
theorem s102 (off n cap : Nat) : allP 2 2 (fun p => oneTopTwo true false off n cap p true) = true := by kernel_rfl
theorem s1131 (off n cap : Nat) : allL 2 (fun p => oneTopTwo true true off n cap p true) [true] = true := by kernel_rfl
theorem b00101 (off n cap : Nat) : both (fun z => oneTopTwo true z off n cap [false, false, true, false] false) = true := by kernel_rfl
theorem b01011 (off n cap : Nat) : both (fun z => oneTopTwo true z off n cap [false, true, false, true] false) = true := by kernel_rfl
theorem b10001 (off n cap : Nat) : both (fun z => oneTopTwo true z off n cap [true, false, false, false] false) = true := by kernel_rfl
theorem b10111 (off n cap : Nat) : both (fun z => oneTopTwo true z off n cap [true, false, true, true] false) = true := by kernel_rfl
theorem b11101 (off n cap : Nat) : both (fun z => oneTopTwo true z off n cap [true, true, true, false] false) = true := by kernel_rfl
end Go.Proofs.YtkjdclpneaepkaaGreat.Bo
