/- What layer 10 asks ahead of its laws: yes. -/
import Derived.Test.YtkjdclpneaepkaaGreatEvB8
import Derived.Test.YtkjdclpneaepkaaGreatEv67
open Go Go.Ev
namespace Go.Proofs.YtkjdclpneaepkaaGreat
noncomputable def TB10 : T Hook := (setP (some hTrue) (path 362) T3)
theorem okB10 : HookOk Tryz.prog (fun f => getP (path f) TB10) := (hook_add ok3 beg8)
theorem evB10 : okT (runXT Tryz.prog tbAll (fun f => getP (path f) TB10) 200 187 .nl .lf .e) = true := by kernel_rfl
theorem beg10 : HookAt Tryz.prog 187 hTrue := hook_trueX (runXT_ok kTAll fnAll mixed okB10 200) evB10
end Go.Proofs.YtkjdclpneaepkaaGreat
