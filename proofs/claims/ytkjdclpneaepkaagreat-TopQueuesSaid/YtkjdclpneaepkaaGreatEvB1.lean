/- What layer 1 asks ahead of its laws: yes. -/
import Derived.Test.YtkjdclpneaepkaaGreatEv49
import Derived.Test.YtkjdclpneaepkaaGreatEv67
open Go Go.Ev
namespace Go.Proofs.YtkjdclpneaepkaaGreat
noncomputable def TB1 : T Hook := T3
theorem okB1 : HookOk Tryz.prog (fun f => getP (path f) TB1) := ok3
theorem evB1 : okT (runXT Tryz.prog tbAll (fun f => getP (path f) TB1) 200 488 .nl .lf .e) = true := by kernel_rfl
theorem beg1 : HookAt Tryz.prog 488 hTrue := hook_trueX (runXT_ok kTAll fnAll mixed okB1 200) evB1
end Go.Proofs.YtkjdclpneaepkaaGreat
