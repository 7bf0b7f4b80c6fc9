/- What layer 26 asks ahead of its laws: yes. -/
import Derived.Test.YtkjdclpneaepkaaGreatEvB10
import Derived.Test.YtkjdclpneaepkaaGreatEv67
open Go Go.Ev
namespace Go.Proofs.YtkjdclpneaepkaaGreat
noncomputable def TB26 : T Hook := (setP (some hTrue) (path 187) T3)
theorem okB26 : HookOk Tryz.prog (fun f => getP (path f) TB26) := (hook_add ok3 beg10)
theorem evB26 : okT (runXT Tryz.prog tbAll (fun f => getP (path f) TB26) 200 61 .nl .lf .e) = true := by kernel_rfl
theorem beg26 : HookAt Tryz.prog 61 hTrue := hook_trueX (runXT_ok kTAll fnAll mixed okB26 200) evB26
end Go.Proofs.YtkjdclpneaepkaaGreat
