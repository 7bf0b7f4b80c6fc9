/- A law's code from some region on: reckoned. -/
import Derived.Test.YtkjdclpneaepkaaGreatEv65
open Go Go.Ev
namespace Go.Proofs.YtkjdclpneaepkaaGreat
open Go.Proofs
noncomputable def restE (fn : Func) (b : Code) (α : T AV) : Rv := fin (cRes Tryz.prog fn.results.toList) (evC (cC Tryz.prog fn.ntmps b) cL α .lf .e)
theorem out_post {fn : Func} {r : Rc} {a a' : Act} {w0 w w' : World} {x : Exit} (K1 : Keep NoF w0 w) (hdf : a.defers = []) (ho : okRes Tryz.prog fn.results.toList = true) (q : Out r (fun _ => none) .lf a w x a' w') (e : okT (fin (cRes Tryz.prog fn.results.toList) r) = true) :
    bodyPost Tryz.prog fn (fun x w' => x = .returned (.bool true) ∧ Keep NoF w0 w') x a' w' := by
  have fine : ∀ {α' : T AV} {h1 : Hp} {n1 : Pa} {ρ' : Ren}, Go.Ev.Good (fun _ => none) .lf a w ρ' α' h1 n1 a' w' → okT (Option.casesOn (outV (cRes Tryz.prog fn.results.toList) α' h1) (.bad 71) fun v => .ok v h1 n1 : Rv) = true →
      a'.defers = [] ∧ ∃ v, (results fn a'.tmps).run Tryz.prog w' = .ok v w' ∧ Ending.returned v = .returned (.bool true) ∧ Keep NoF w0 w' := fun {α' h1 n1 ρ'} g e => by
    cases e1 : outV (cRes Tryz.prog fn.results.toList) α' h1 with
    | none => rw [e1] at e; cases e
    | some v =>
      rw [e1] at e
      obtain ⟨u, h4, h5⟩ := results_ok g.hr g.tr ho e1
      have hk : Keep NoF w w' := ⟨g.st.os, g.st.tape, g.st.output, g.st.size, fun k hk _ => g.st.keep k hk fun ⟨id, b, t, q, _⟩ => by rw [getP_lf] at q; cases q⟩
      refine ⟨g.df.trans hdf, u, h5, ?_, K1.trans' hk⟩
      cases v <;> first
        | (cases (show _ = true from e); rw [show u = _ from h4])
        | cases e
  cases x with
  | normal => obtain ⟨α', h1, n1, ρ', q1, q2⟩ := q; subst q1; exact fine q2 e
  | ret => obtain ⟨α', h1, n1, ρ', q1, q2⟩ := q; subst q1; exact fine q2 e
  | exit id => obtain ⟨α', h1, n1, ρ', q1, q2⟩ := q; subst q1; cases e
  | goto l => exact q.elim
  | panic ch => exact q.elim
  | outgrown => exact q.elim
/-- The rest of a function's code, at a seam of the walk. -/
theorem rest_seq {fn : Func} {A B : Code} {K : Act → World → Prop} {a : Act} {w0 w : World} (hK : ∀ a w, Code.wp Tryz.prog B (bodyPost Tryz.prog fn fun x w' => x = .returned (.bool true) ∧ Keep NoF w0 w') a w → K a w)
    (K1 : Keep NoF w0 w) (α : T AV) (hnt : fn.ntmps ≤ a.tmps.size) (hdf : a.defers = []) (hT : TR (fun _ => none) α a.tmps) (ho : okRes Tryz.prog fn.results.toList = true) (e : okT (restE fn (.seq A B) α) = true) :
    Code.wp Tryz.prog A (Exit.then K (bodyPost Tryz.prog fn fun x w' => x = .returned (.bool true) ∧ Keep NoF w0 w')) a w := by
  have e : okT (fin (cRes Tryz.prog fn.results.toList) (Rc.casesOn (evC (cC Tryz.prog fn.ntmps A) cL α .lf .e) (fun n => .bad n) (fun tm h nx => evC (cC Tryz.prog fn.ntmps B) cL tm h nx) (fun id tm h nx => .ex id tm h nx) (fun tm h nx => .rt tm h nx))) = true := e
  have hb : ∀ n', evC (cC Tryz.prog fn.ntmps A) cL α .lf .e ≠ .bad n' := fun n' q => by rw [q] at e; cases e
  refine wp_mono (code_ok (nt := fn.ntmps) mixed okCL A (H00 w) hT hnt hb) fun x a1 w1 q => ?_
  cases x with
  | normal =>
    obtain ⟨α1, h1, n1, ρ1, q1, g⟩ := q
    rw [q1] at e
    have hb2 : ∀ n', evC (cC Tryz.prog fn.ntmps B) cL α1 h1 n1 ≠ .bad n' := fun n' q => by
      have e : okT (fin (cRes Tryz.prog fn.results.toList) (evC (cC Tryz.prog fn.ntmps B) cL α1 h1 n1)) = true := e
      rw [q] at e; cases e
    exact hK _ _ (wp_mono (code_ok (nt := fn.ntmps) mixed okCL B g.hr g.tr (by rw [g.sz]; exact hnt) hb2) fun x a' w' q2 => out_post K1 hdf ho (Out.shift g _ _ _ q2) e)
  | ret => obtain ⟨α', h1, n1, ρ', q1, q2⟩ := q; rw [q1] at e; exact out_post (x := .ret) K1 hdf ho ⟨α', h1, n1, ρ', rfl, q2⟩ e
  | exit id => obtain ⟨α', h1, n1, ρ', q1, q2⟩ := q; rw [q1] at e; cases e
  | goto l => exact q.elim
  | panic ch => exact q.elim
  | outgrown => exact q.elim
end Go.Proofs.YtkjdclpneaepkaaGreat
