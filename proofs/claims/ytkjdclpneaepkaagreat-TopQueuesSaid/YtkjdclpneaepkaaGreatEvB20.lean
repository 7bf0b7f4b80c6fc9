/- What layer 20 asks ahead of its laws: yes. -/
import Derived.Test.YtkjdclpneaepkaaGreatEv49
import Derived.Test.YtkjdclpneaepkaaGreatEv67
open Go Go.Ev
namespace Go.Proofs.YtkjdclpneaepkaaGreat
noncomputable def TB20 : T Hook := T3
theorem okB20 : HookOk Tryz.prog (fun f => getP (path f) TB20) := ok3
theorem evB20 : okT (runXT Tryz.prog tbAll (fun f => getP (path f) TB20) 200 333 .nl .lf .e) = true := by kernel_rfl
theorem beg20 : HookAt Tryz.prog 333 hTrue := hook_trueX (runXT_ok kTAll fnAll mixed okB20 200) evB20
end Go.Proofs.YtkjdclpneaepkaaGreat
