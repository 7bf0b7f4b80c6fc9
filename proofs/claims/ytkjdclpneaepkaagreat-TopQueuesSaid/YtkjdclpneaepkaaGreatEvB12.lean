/- What layer 12 asks ahead of its laws: yes. -/
import Derived.Test.YtkjdclpneaepkaaGreatEvB10
import Derived.Test.YtkjdclpneaepkaaGreatEvB4
import Derived.Test.YtkjdclpneaepkaaGreatEv67
open Go Go.Ev
namespace Go.Proofs.YtkjdclpneaepkaaGreat
noncomputable def TB12 : T Hook := (setP (some hTrue) (path 535) (setP (some hTrue) (path 187) T3))
theorem okB12 : HookOk Tryz.prog (fun f => getP (path f) TB12) := (hook_add (hook_add ok3 beg10) beg4)
theorem evB12 : okT (runXT Tryz.prog tbAll (fun f => getP (path f) TB12) 200 482 .nl .lf .e) = true := by kernel_rfl
theorem beg12 : HookAt Tryz.prog 482 hTrue := hook_trueX (runXT_ok kTAll fnAll mixed okB12 200) evB12
end Go.Proofs.YtkjdclpneaepkaaGreat
