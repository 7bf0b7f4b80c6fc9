/- The hooks' tables; Open of a new disk, reckoned. -/
import Derived.Test.YtkjdclpneaepkaaGreatEvQ3
import Derived.Test.YtkjdclpneaepkaaGreatEv67
import Derived.KernelRfl
open Go Go.Ev
namespace Go.Proofs.YtkjdclpneaepkaaGreat
theorem mixed : Tryz.prog.follows .mixedOrders = true := by kernel_rfl
noncomputable def T0 : T Hook := hookT fun n => Nat.casesOn n 2 fun _ => 2
theorem ok0 : HookOk Tryz.prog (fun f => getP (path f) T0) := hooks0
noncomputable def T1 : T Hook := setP (some hOn) (path 325) <| setP (some hBits) (path 427) (setP (some hName) (path 287) T0)
theorem ok1 : HookOk Tryz.prog (fun f => getP (path f) T1) := hook_add (hook_add (hook_add ok0 hook_name) hook_bits) hook_on
noncomputable def c1 : CallF := runXT Tryz.prog tbAll (fun f => getP (path f) T1) 100
noncomputable def T2 : T Hook := setP (some (hRead c1 199)) (path 199) T1
theorem ok2 : HookOk Tryz.prog (fun f => getP (path f) T2) := hook_add ok1 (hook_read (runXT_ok kTAll fnAll mixed ok1 100))
noncomputable def c2 : CallF := runXT Tryz.prog tbAll (fun f => getP (path f) T2) 100
theorem open0 : chkD (c2 201 a00 h00 (.a .x2)) = true := by kernel_rfl
noncomputable def T3 : T Hook := setP (some (hOpen c2 201)) (path 201) T2
theorem ok3 : HookOk Tryz.prog (fun f => getP (path f) T3) := hook_add ok2 (hopen_at (runXT_ok kTAll fnAll mixed ok2 100) open0)
end Go.Proofs.YtkjdclpneaepkaaGreat
