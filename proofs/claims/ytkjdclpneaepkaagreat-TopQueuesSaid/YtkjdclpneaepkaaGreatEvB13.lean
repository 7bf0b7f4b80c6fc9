/- What layer 13 asks ahead of its laws: yes. -/
import Derived.Test.YtkjdclpneaepkaaGreatEvB8
import Derived.Test.YtkjdclpneaepkaaGreatEvB6
import Derived.Test.YtkjdclpneaepkaaGreatEv67
open Go Go.Ev
namespace Go.Proofs.YtkjdclpneaepkaaGreat
noncomputable def TB13 : T Hook := (setP (some hTrue) (path 481) (setP (some hTrue) (path 362) T3))
theorem okB13 : HookOk Tryz.prog (fun f => getP (path f) TB13) := (hook_add (hook_add ok3 beg8) beg6)
theorem evB13 : okT (runXT Tryz.prog tbAll (fun f => getP (path f) TB13) 200 483 .nl .lf .e) = true := by kernel_rfl
theorem beg13 : HookAt Tryz.prog 483 hTrue := hook_trueX (runXT_ok kTAll fnAll mixed okB13 200) evB13
end Go.Proofs.YtkjdclpneaepkaaGreat
