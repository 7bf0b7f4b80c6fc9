/- TopTwo: leaves. -/
import Derived.Test.YtkjdclpneaepkaaGreatTTopTwo
set_option linter.unusedVariables false
open Go Go.Ev Go.Ev.Ch Go.RowKit
namespace Go.Proofs.YtkjdclpneaepkaaGreat.Bo
theorem s002 (off n cap : Nat) : allP 2 2 (fun p => oneTopTwo false false off n cap p true) = true := by kernel_rfl
theorem s0131 (off n cap : Nat) : allL 2 (fun p => oneTopTwo false true off n cap p true) [true] = true := by kernel_rfl
theorem s112 (off n cap : Nat) : allP 2 2 (fun p => oneTopTwo true true off n cap p true) = true := by kernel_rfl
theorem b00011 (off n cap : Nat) : both (fun z => oneTopTwo true z off n cap [false, false, false, true] false) = true := by kernel_rfl
theorem b01001 (off n cap : Nat) : both (fun z => oneTopTwo true z off n cap [false, true, false, false] false) = true := by kernel_rfl
theorem b01111 (off n cap : Nat) : both (fun z => oneTopTwo true z off n cap [false, true, true, true] false) = true := by kernel_rfl
theorem b10101 (off n cap : Nat) : both (fun z => oneTopTwo true z off n cap [true, false, true, false] false) = true := by kernel_rfl
theorem b11011 (off n cap : Nat) : both (fun z => oneTopTwo true z off n cap [true, true, false, true] false) = true := by kernel_rfl
end Go.Proofs.YtkjdclpneaepkaaGreat.Bo
