/- What layer 8 asks ahead of its laws: yes. -/
import Derived.Test.YtkjdclpneaepkaaGreatEvB1
import Derived.Test.YtkjdclpneaepkaaGreatEv67
open Go Go.Ev
namespace Go.Proofs.YtkjdclpneaepkaaGreat
noncomputable def TB8 : T Hook := (setP (some hTrue) (path 488) T3)
theorem okB8 : HookOk Tryz.prog (fun f => getP (path f) TB8) := (hook_add ok3 beg1)
theorem evB8 : okT (runXT Tryz.prog tbAll (fun f => getP (path f) TB8) 200 362 .nl .lf .e) = true := by kernel_rfl
theorem beg8 : HookAt Tryz.prog 362 hTrue := hook_trueX (runXT_ok kTAll fnAll mixed okB8 200) evB8
end Go.Proofs.YtkjdclpneaepkaaGreat
