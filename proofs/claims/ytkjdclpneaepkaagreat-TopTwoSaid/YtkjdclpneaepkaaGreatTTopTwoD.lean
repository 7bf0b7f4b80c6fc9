/- TopTwo: leaves. -/
import Derived.Test.YtkjdclpneaepkaaGreatTTopTwo
set_option linter.unusedVariables false
open Go Go.Ev Go.Ev.Ch Go.RowKit
namespace Go.Proofs.YtkjdclpneaepkaaGreat.Bo
theorem s0030 (off n cap : Nat) : allL 2 (fun p => oneTopTwo false false off n cap p true) [false] = true := by kernel_rfl
theorem s101 (off n cap : Nat) : allP 1 1 (fun p => oneTopTwo true false off n cap p true) = true := by kernel_rfl
theorem s1130 (off n cap : Nat) : allL 2 (fun p => oneTopTwo true true off n cap p true) [false] = true := by kernel_rfl
theorem b00100 (off n cap : Nat) : both (fun z => oneTopTwo false z off n cap [false, false, true, false] false) = true := by kernel_rfl
theorem b01010 (off n cap : Nat) : both (fun z => oneTopTwo false z off n cap [false, true, false, true] false) = true := by kernel_rfl
theorem b10000 (off n cap : Nat) : both (fun z => oneTopTwo false z off n cap [true, false, false, false] false) = true := by kernel_rfl
theorem b10110 (off n cap : Nat) : both (fun z => oneTopTwo false z off n cap [true, false, true, true] false) = true := by kernel_rfl
theorem b11100 (off n cap : Nat) : both (fun z => oneTopTwo false z off n cap [true, true, true, false] false) = true := by kernel_rfl
end Go.Proofs.YtkjdclpneaepkaaGreat.Bo
