/- What layer 21 asks ahead of its laws: yes. -/
import Derived.Test.YtkjdclpneaepkaaGreatEvB15
import Derived.Test.YtkjdclpneaepkaaGreatEvB17
import Derived.Test.YtkjdclpneaepkaaGreatEvB20
import Derived.Test.YtkjdclpneaepkaaGreatEvB5
import Derived.Test.YtkjdclpneaepkaaGreatEv67
open Go Go.Ev
namespace Go.Proofs.YtkjdclpneaepkaaGreat
noncomputable def TB21 : T Hook := (setP (some hTrue) (path 334) (setP (some hTrue) (path 333) (setP (some hTrue) (path 332) (setP (some hTrue) (path 331) T3))))
theorem okB21 : HookOk Tryz.prog (fun f => getP (path f) TB21) := (hook_add (hook_add (hook_add (hook_add ok3 beg15) beg17) beg20) beg5)
theorem evB21 : okT (runXT Tryz.prog tbAll (fun f => getP (path f) TB21) 200 176 .nl .lf .e) = true := by kernel_rfl
theorem beg21 : HookAt Tryz.prog 176 hTrue := hook_trueX (runXT_ok kTAll fnAll mixed okB21 200) evB21
end Go.Proofs.YtkjdclpneaepkaaGreat
