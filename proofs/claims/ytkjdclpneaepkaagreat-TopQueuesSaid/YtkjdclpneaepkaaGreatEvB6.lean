/- What layer 6 asks ahead of its laws: yes. -/
import Derived.Test.YtkjdclpneaepkaaGreatEv49
import Derived.Test.YtkjdclpneaepkaaGreatEv67
open Go Go.Ev
namespace Go.Proofs.YtkjdclpneaepkaaGreat
noncomputable def TB6 : T Hook := T3
theorem okB6 : HookOk Tryz.prog (fun f => getP (path f) TB6) := ok3
theorem evB6 : okT (runXT Tryz.prog tbAll (fun f => getP (path f) TB6) 200 481 .nl .lf .e) = true := by kernel_rfl
theorem beg6 : HookAt Tryz.prog 481 hTrue := hook_trueX (runXT_ok kTAll fnAll mixed okB6 200) evB6
end Go.Proofs.YtkjdclpneaepkaaGreat
