/- What layer 22 asks ahead of its laws: yes. -/
import Derived.Test.YtkjdclpneaepkaaGreatEvB21
import Derived.Test.YtkjdclpneaepkaaGreatEv67
open Go Go.Ev
namespace Go.Proofs.YtkjdclpneaepkaaGreat
noncomputable def TB22 : T Hook := (setP (some hTrue) (path 176) T3)
theorem okB22 : HookOk Tryz.prog (fun f => getP (path f) TB22) := (hook_add ok3 beg21)
theorem evB22 : okT (runXT Tryz.prog tbAll (fun f => getP (path f) TB22) 200 60 .nl .lf .e) = true := by kernel_rfl
theorem beg22 : HookAt Tryz.prog 60 hTrue := hook_trueX (runXT_ok kTAll fnAll mixed okB22 200) evB22
end Go.Proofs.YtkjdclpneaepkaaGreat
