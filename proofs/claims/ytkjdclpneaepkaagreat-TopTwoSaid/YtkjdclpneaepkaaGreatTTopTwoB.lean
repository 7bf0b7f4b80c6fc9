/- TopTwo: leaves. -/
import Derived.Test.YtkjdclpneaepkaaGreatTTopTwo
set_option linter.unusedVariables false
open Go Go.Ev Go.Ev.Ch Go.RowKit
namespace Go.Proofs.YtkjdclpneaepkaaGreat.Bo
theorem s001 (off n cap : Nat) : allP 1 1 (fun p => oneTopTwo false false off n cap p true) = true := by kernel_rfl
theorem s0130 (off n cap : Nat) : allL 2 (fun p => oneTopTwo false true off n cap p true) [false] = true := by kernel_rfl
theorem s111 (off n cap : Nat) : allP 1 1 (fun p => oneTopTwo true true off n cap p true) = true := by kernel_rfl
theorem b00010 (off n cap : Nat) : both (fun z => oneTopTwo false z off n cap [false, false, false, true] false) = true := by kernel_rfl
theorem b01000 (off n cap : Nat) : both (fun z => oneTopTwo false z off n cap [false, true, false, false] false) = true := by kernel_rfl
theorem b01110 (off n cap : Nat) : both (fun z => oneTopTwo false z off n cap [false, true, true, true] false) = true := by kernel_rfl
theorem b10100 (off n cap : Nat) : both (fun z => oneTopTwo false z off n cap [true, false, true, false] false) = true := by kernel_rfl
theorem b11010 (off n cap : Nat) : both (fun z => oneTopTwo false z off n cap [true, true, false, true] false) = true := by kernel_rfl
end Go.Proofs.YtkjdclpneaepkaaGreat.Bo
