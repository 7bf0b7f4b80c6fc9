/- One hook more: byt.Out.wide; the laws' frame over it. -/
import Derived.Test.YtkjdclpneaepkaaGreatEv65
import Derived.Test.YtkjdclpneaepkaaGreatEv72
set_option linter.unusedVariables false
open Go Go.Ev
namespace Go.Proofs.YtkjdclpneaepkaaGreat
open Go.Proofs
noncomputable def TY : T Hook := setP (some hTid) (path 123) (setP (some hHome) (path 40) (setP (some hWide) (path 216) TL))
theorem okY : HookOk Tryz.prog (fun f => getP (path f) TY) := hook_add (hook_add (hook_add okL hook_wide) hook_home) hook_tid
noncomputable def cY : CallF := runXT Tryz.prog tbAll (fun f => getP (path f) TY) 200
theorem okCY : CallOk Tryz.prog cY := runXT_ok kTAll fnAll mixed okY 200
noncomputable def runY (fn : Func) (sp : Nat → Option SpD) (b : Code) (α : T AV) (nx : Pa) : Bool := okT (fin (cRes Tryz.prog fn.results.toList) (Cx.rec (motive := fun _ => Rc) (fun f => f cY α .lf nx) (codeD Tryz.prog fn.ntmps sp b)))
/-- The rest of a function's code, at a seam of the walk; what some regions leave is told, an invariant of memory beside it. -/
theorem restI_Y {fn : Func} {A B : Code} {K : Act → World → Prop} {a : Act} {w0 w : World} {sp : Nat → Option SpD} {Inv : Ren → Hp → World → Prop} (hI : ∀ {ρ h a w ρ' α' h' nx' a' w'}, Inv ρ h w → Go.Ev.Good ρ h a w ρ' α' h' nx' a' w' → Inv ρ' h' w')
    (hA : allD (fun id ops d => ∀ F, sp id = some F → SpDOk Tryz.prog Inv fn.ntmps F id ops d) (.seq A B)) (hK : ∀ a w, Code.wp Tryz.prog B (bodyPost Tryz.prog fn fun x w' => x = .returned (.bool true) ∧ Keep NoF w0 w') a w → K a w)
    (K1 : Keep NoF w0 w) {ρ0 : Ren} {nx0 : Pa} (H : HR ρ0 .lf nx0 w) (hv : Inv ρ0 .lf w) (α : T AV) (hnt : fn.ntmps ≤ a.tmps.size) (hdf : a.defers = []) (hT : TR ρ0 α a.tmps) (ho : okRes Tryz.prog fn.results.toList = true) (e : runY fn sp (.seq A B) α nx0 = true) :
    Code.wp Tryz.prog A (Exit.then K (bodyPost Tryz.prog fn fun x w' => x = .returned (.bool true) ∧ Keep NoF w0 w')) a w := by
  rw [allD_seq] at hA
  obtain ⟨fa, ha, h1⟩ := codeD_ok (c := cY) hI mixed okCY A hA.1
  obtain ⟨fb, hb, h2⟩ := codeD_ok (c := cY) hI mixed okCY B hA.2
  have hs : codeD Tryz.prog fn.ntmps sp (.seq A B) = .mk fun c tm h nx => seqD fa fb c tm h nx := by
    show Cx.rec (motive := fun _ => Cx) (fun fa => Cx.rec (motive := fun _ => Cx) (fun fb => .mk fun c tm h nx => seqD fa fb c tm h nx) (codeD Tryz.prog fn.ntmps sp B)) (codeD Tryz.prog fn.ntmps sp A) = _
    rw [ha, hb]
  unfold runY at e
  rw [hs] at e
  have e : okT (fin (cRes Tryz.prog fn.results.toList) (Rc.rec (motive := fun _ => Rc) (fun n => .bad n) (fun tm h nx => fb cY tm h nx) (fun id tm h nx => .ex id tm h nx) (fun tm h nx => .rt tm h nx) (fa cY α .lf nx0))) = true := e
  refine wp_mono (h1 H hT hnt hv fun n' q => by rw [q] at e; cases e) fun x a1 w1 q => ?_
  cases x with
  | normal =>
    obtain ⟨α1, h1', n1, ρ1, q1, g⟩ := q
    rw [q1] at e
    have e : okT (fin (cRes Tryz.prog fn.results.toList) (fb cY α1 h1' n1)) = true := e
    exact hK _ _ (wp_mono (h2 g.hr g.tr (by rw [g.sz]; exact hnt) (hI hv g) fun n' q => by rw [q] at e; cases e) fun x a' w' q2 => outD_post K1 hdf ho (Out.shift g _ _ _ q2) e)
  | ret => obtain ⟨α', h1, n1, ρ', q1, q2⟩ := q; rw [q1] at e; exact outD_post (x := .ret) K1 hdf ho ⟨α', h1, n1, ρ', rfl, q2⟩ e
  | exit id => obtain ⟨α', h1, n1, ρ', q1, q2⟩ := q; rw [q1] at e; cases e
  | goto l => exact q.elim
  | panic ch => exact q.elim
  | outgrown => exact q.elim
/-- The rest of a function's code, at a seam of the walk. -/
theorem rest_Y {fn : Func} {A B : Code} {K : Act → World → Prop} {a : Act} {w0 w : World} (hK : ∀ a w, Code.wp Tryz.prog B (bodyPost Tryz.prog fn fun x w' => x = .returned (.bool true) ∧ Keep NoF w0 w') a w → K a w)
    (K1 : Keep NoF w0 w) (α : T AV) (hnt : fn.ntmps ≤ a.tmps.size) (hdf : a.defers = []) (hT : TR (fun _ => none) α a.tmps) (ho : okRes Tryz.prog fn.results.toList = true) (e : runY fn noSp (.seq A B) α .e = true) :
    Code.wp Tryz.prog A (Exit.then K (bodyPost Tryz.prog fn fun x w' => x = .returned (.bool true) ∧ Keep NoF w0 w')) a w :=
  restI_Y (Inv := fun _ _ _ => True) (fun _ _ => trivial) (allD_none _ _ _) hK K1 (H00 w) trivial α hnt hdf hT ho e
end Go.Proofs.YtkjdclpneaepkaaGreat
