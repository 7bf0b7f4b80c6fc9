/- What layer 4 asks ahead of its laws: yes. -/
import Derived.Test.YtkjdclpneaepkaaGreatEvB3
import Derived.Test.YtkjdclpneaepkaaGreatEv67
open Go Go.Ev
namespace Go.Proofs.YtkjdclpneaepkaaGreat
noncomputable def TB4 : T Hook := (setP (some hTrue) (path 545) T3)
theorem okB4 : HookOk Tryz.prog (fun f => getP (path f) TB4) := (hook_add ok3 beg3)
theorem evB4 : okT (runXT Tryz.prog tbAll (fun f => getP (path f) TB4) 200 535 .nl .lf .e) = true := by kernel_rfl
theorem beg4 : HookAt Tryz.prog 535 hTrue := hook_trueX (runXT_ok kTAll fnAll mixed okB4 200) evB4
end Go.Proofs.YtkjdclpneaepkaaGreat
