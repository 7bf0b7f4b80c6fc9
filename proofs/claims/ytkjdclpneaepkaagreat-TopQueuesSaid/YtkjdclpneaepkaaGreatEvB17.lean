/- What layer 17 asks ahead of its laws: yes. -/
import Derived.Test.YtkjdclpneaepkaaGreatEvB12
import Derived.Test.YtkjdclpneaepkaaGreatEvB13
import Derived.Test.YtkjdclpneaepkaaGreatEvB18
import Derived.Test.YtkjdclpneaepkaaGreatEv67
open Go Go.Ev
namespace Go.Proofs.YtkjdclpneaepkaaGreat
noncomputable def TB17 : T Hook := (setP (some hTrue) (path 484) (setP (some hTrue) (path 483) (setP (some hTrue) (path 482) T3)))
theorem okB17 : HookOk Tryz.prog (fun f => getP (path f) TB17) := (hook_add (hook_add (hook_add ok3 beg12) beg13) beg18)
theorem evB17 : okT (runXT Tryz.prog tbAll (fun f => getP (path f) TB17) 200 332 .nl .lf .e) = true := by kernel_rfl
theorem beg17 : HookAt Tryz.prog 332 hTrue := hook_trueX (runXT_ok kTAll fnAll mixed okB17 200) evB17
end Go.Proofs.YtkjdclpneaepkaaGreat
