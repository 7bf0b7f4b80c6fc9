/- What layer 3 asks ahead of its laws: yes. -/
import Derived.Test.YtkjdclpneaepkaaGreatEvB1
import Derived.Test.YtkjdclpneaepkaaGreatEv67
open Go Go.Ev
namespace Go.Proofs.YtkjdclpneaepkaaGreat
noncomputable def TB3 : T Hook := (setP (some hTrue) (path 488) T3)
theorem okB3 : HookOk Tryz.prog (fun f => getP (path f) TB3) := (hook_add ok3 beg1)
theorem evB3 : okT (runXT Tryz.prog tbAll (fun f => getP (path f) TB3) 200 545 .nl .lf .e) = true := by kernel_rfl
theorem beg3 : HookAt Tryz.prog 545 hTrue := hook_trueX (runXT_ok kTAll fnAll mixed okB3 200) evB3
end Go.Proofs.YtkjdclpneaepkaaGreat
