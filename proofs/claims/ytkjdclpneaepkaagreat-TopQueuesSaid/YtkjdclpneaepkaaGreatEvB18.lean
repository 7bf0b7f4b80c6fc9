/- What layer 18 asks ahead of its laws: yes. -/
import Derived.Test.YtkjdclpneaepkaaGreatEv49
import Derived.Test.YtkjdclpneaepkaaGreatEv67
open Go Go.Ev
namespace Go.Proofs.YtkjdclpneaepkaaGreat
noncomputable def TB18 : T Hook := T3
theorem okB18 : HookOk Tryz.prog (fun f => getP (path f) TB18) := ok3
theorem evB18 : okT (runXT Tryz.prog tbAll (fun f => getP (path f) TB18) 200 484 .nl .lf .e) = true := by kernel_rfl
theorem beg18 : HookAt Tryz.prog 484 hTrue := hook_trueX (runXT_ok kTAll fnAll mixed okB18 200) evB18
end Go.Proofs.YtkjdclpneaepkaaGreat
