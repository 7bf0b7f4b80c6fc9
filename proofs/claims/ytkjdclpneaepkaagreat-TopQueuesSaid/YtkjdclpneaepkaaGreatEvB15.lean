/- What layer 15 asks ahead of its laws: yes. -/
import Derived.Test.YtkjdclpneaepkaaGreatEvB8
import Derived.Test.YtkjdclpneaepkaaGreatEvB6
import Derived.Test.YtkjdclpneaepkaaGreatEv67
open Go Go.Ev
namespace Go.Proofs.YtkjdclpneaepkaaGreat
noncomputable def TB15 : T Hook := (setP (some hTrue) (path 481) (setP (some hTrue) (path 362) T3))
theorem okB15 : HookOk Tryz.prog (fun f => getP (path f) TB15) := (hook_add (hook_add ok3 beg8) beg6)
theorem evB15 : okT (runXT Tryz.prog tbAll (fun f => getP (path f) TB15) 200 331 .nl .lf .e) = true := by kernel_rfl
theorem beg15 : HookAt Tryz.prog 331 hTrue := hook_trueX (runXT_ok kTAll fnAll mixed okB15 200) evB15
end Go.Proofs.YtkjdclpneaepkaaGreat
