/- TopChainOf: leaves. -/
import Derived.Test.YtkjdclpneaepkaaGreatTTopChainOf
set_option linter.unusedVariables false
open Go Go.Proofs Go.Ev Go.RowKit
namespace Go.Proofs.YtkjdclpneaepkaaGreat.Bo
theorem midB : okT (fin (cRes Tryz.prog (Tryz.f9).results.toList) (nxt 102 Z9 (lpN 102 X9 0 50 (.nx litF litH litN)))) = true := by kernel_rfl
end Go.Proofs.YtkjdclpneaepkaaGreat.Bo
