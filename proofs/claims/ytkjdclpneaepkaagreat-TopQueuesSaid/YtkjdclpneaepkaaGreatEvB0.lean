/- What the whole asks ahead of its laws: yes. -/
import Derived.Test.YtkjdclpneaepkaaGreatEvB22
import Derived.Test.YtkjdclpneaepkaaGreatEvB26
import Derived.Test.YtkjdclpneaepkaaGreatEv67
open Go Go.Ev
namespace Go.Proofs.YtkjdclpneaepkaaGreat
noncomputable def TB0 : T Hook := (setP (some hTrue) (path 61) (setP (some hTrue) (path 60) T3))
theorem okB0 : HookOk Tryz.prog (fun f => getP (path f) TB0) := (hook_add (hook_add ok3 beg22) beg26)
theorem evB0 : okT (runXT Tryz.prog tbAll (fun f => getP (path f) TB0) 200 14 .nl .lf .e) = true := by kernel_rfl
theorem beg0 : HookAt Tryz.prog 14 hTrue := hook_trueX (runXT_ok kTAll fnAll mixed okB0 200) evB0
end Go.Proofs.YtkjdclpneaepkaaGreat
