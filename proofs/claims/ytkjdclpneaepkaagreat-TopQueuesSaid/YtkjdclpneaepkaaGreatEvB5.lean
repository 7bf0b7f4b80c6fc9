/- What layer 5 asks ahead of its laws: yes. -/
import Derived.Test.YtkjdclpneaepkaaGreatEv49
import Derived.Test.YtkjdclpneaepkaaGreatEv67
open Go Go.Ev
namespace Go.Proofs.YtkjdclpneaepkaaGreat
noncomputable def TB5 : T Hook := T3
theorem okB5 : HookOk Tryz.prog (fun f => getP (path f) TB5) := ok3
theorem evB5 : okT (runXT Tryz.prog tbAll (fun f => getP (path f) TB5) 200 334 .nl .lf .e) = true := by kernel_rfl
theorem beg5 : HookAt Tryz.prog 334 hTrue := hook_trueX (runXT_ok kTAll fnAll mixed okB5 200) evB5
end Go.Proofs.YtkjdclpneaepkaaGreat
