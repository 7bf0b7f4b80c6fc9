/- The laws' frame, with the quick evaluator. -/
import Derived.Test.YtkjdclpneaepkaaGreatEv50
import Derived.Test.YtkjdclpneaepkaaGreatEvP4
open Go Go.Ev
namespace Go.Proofs.YtkjdclpneaepkaaGreat
open Go.Proofs
noncomputable abbrev cX : CallF := cL
theorem okCX : CallOk Tryz.prog cX := okCL
noncomputable def allB (p : Nat → Bool) (n : Nat) : Bool := Nat.rec (motive := fun _ => Bool) true (fun i ih => Bool.rec (motive := fun _ => Bool) false ih (p i)) n
theorem allB_ok {p : Nat → Bool} : ∀ {n : Nat}, allB p n = true → ∀ i, i < n → p i = true
  | 0, _, _, h => absurd h (Nat.not_lt_zero _)
  | n + 1, h, i, hi => by
    have h : (Bool.rec false (allB p n) (p n) : Bool) = true := h
    cases q : p n with
    | false => rw [q] at h; cases h
    | true =>
      rw [q] at h
      rcases Nat.lt_succ_iff_lt_or_eq.1 hi with k | k
      · exact allB_ok h i k
      · rw [k]; exact q
/-- The code from a region on. -/
noncomputable def fromR (n : Nat) (c : Code) : Option Code := Code.rec (motive := fun _ => Option Code) none (fun i ops d => bif Nat.beq i n then some (.region i ops d) else none) (fun _ b ia ib => Option.casesOn ia ib fun a => some (.seq a b)) (fun _ _ _ _ _ => none) (fun _ _ _ => none) (fun _ _ => none)
  (fun _ _ _ _ _ _ => none) (fun _ => none) (fun _ _ => none) (fun _ => none) (fun _ => none) none (fun _ => none) c
noncomputable def restC (fn : Func) (n : Nat) : Code := Option.casesOn fn.body .skip fun c => Option.casesOn (fromR n c) .skip fun c => c
noncomputable def runD (fn : Func) (sp : Nat → Option SpD) (b : Code) (α : T AV) (nx : Pa) : Bool := okT (fin (cRes Tryz.prog fn.results.toList) (Cx.rec (motive := fun _ => Rc) (fun f => f cX α .lf nx) (codeD Tryz.prog fn.ntmps sp b)))
theorem TR1 {ρ : Ren} {i : Nat} {v : AV} {tmps : Array Value} (h : V ρ v (tmps.getD i undef)) : TR ρ (setP (some v) (path i) .lf) tmps := fun t u e => by
  rcases get_set' (some v) (path t) (path i) .lf with ⟨h1, h2⟩ | ⟨h1, h2⟩
  · rw [h1] at e; cases e; rw [path_inj h2]; exact h
  · rw [h1, getP_lf] at e; cases e
theorem TR2 {ρ : Ren} {α : T AV} {i : Nat} {v : AV} {tmps : Array Value} (k : TR ρ α tmps) (h : V ρ v (tmps.getD i undef)) : TR ρ (setP (some v) (path i) α) tmps := fun t u e => by
  rcases get_set' (some v) (path t) (path i) α with ⟨h1, h2⟩ | ⟨h1, h2⟩
  · rw [h1] at e; cases e; rw [path_inj h2]; exact h
  · rw [h1] at e; exact k t u e
theorem H00 (w : World) : HR (fun _ => none) .lf .e w := ⟨fun id p q => (by cases q), fun id b q => (by rw [getP_lf] at q; cases q), fun id id' b b' g t t' q => (by rw [getP_lf] at q; cases q)⟩
theorem outD_post {fn : Func} {r : Rc} {ρ0 : Ren} {a a' : Act} {w0 w w' : World} {x : Exit} (K1 : Keep NoF w0 w) (hdf : a.defers = []) (ho : okRes Tryz.prog fn.results.toList = true) (q : Out r ρ0 .lf a w x a' w') (e : okT (fin (cRes Tryz.prog fn.results.toList) r) = true) :
    bodyPost Tryz.prog fn (fun x w' => x = .returned (.bool true) ∧ Keep NoF w0 w') x a' w' := by
  have fine : ∀ {α' : T AV} {h1 : Hp} {n1 : Pa} {ρ' : Ren}, Go.Ev.Good ρ0 .lf a w ρ' α' h1 n1 a' w' → okT (Option.casesOn (outV (cRes Tryz.prog fn.results.toList) α' h1) (.bad 71) fun v => .ok v h1 n1 : Rv) = true →
      a'.defers = [] ∧ ∃ v, (results fn a'.tmps).run Tryz.prog w' = .ok v w' ∧ Ending.returned v = .returned (.bool true) ∧ Keep NoF w0 w' := fun {α' h1 n1 ρ'} g e => by
    cases e1 : outV (cRes Tryz.prog fn.results.toList) α' h1 with
    | none => rw [e1] at e; cases e
    | some v =>
      rw [e1] at e
      obtain ⟨u, h4, h5⟩ := results_ok g.hr g.tr ho e1
      have hk : Keep NoF w w' := ⟨g.st.os, g.st.tape, g.st.output, g.st.size, fun k hk _ => g.st.keep k hk fun ⟨id, b, t, q, _⟩ => by rw [getP_lf] at q; cases q⟩
      refine ⟨g.df.trans hdf, u, h5, ?_, K1.trans' hk⟩
      cases v <;> first
        | (cases (show _ = true from e); rw [show u = _ from h4])
        | cases e
  cases x with
  | normal => obtain ⟨α', h1, n1, ρ', q1, q2⟩ := q; subst q1; exact fine q2 e
  | ret => obtain ⟨α', h1, n1, ρ', q1, q2⟩ := q; subst q1; exact fine q2 e
  | exit id => obtain ⟨α', h1, n1, ρ', q1, q2⟩ := q; subst q1; cases e
  | goto l => exact q.elim
  | panic ch => exact q.elim
  | outgrown => exact q.elim
/-- The rest of a function's code, at a seam of the walk; what some regions leave is told, an invariant of memory beside it. -/
theorem restI_D {fn : Func} {A B : Code} {K : Act → World → Prop} {a : Act} {w0 w : World} {sp : Nat → Option SpD} {Inv : Ren → Hp → World → Prop} (hI : ∀ {ρ h a w ρ' α' h' nx' a' w'}, Inv ρ h w → Go.Ev.Good ρ h a w ρ' α' h' nx' a' w' → Inv ρ' h' w')
    (hA : allD (fun id ops d => ∀ F, sp id = some F → SpDOk Tryz.prog Inv fn.ntmps F id ops d) (.seq A B)) (hK : ∀ a w, Code.wp Tryz.prog B (bodyPost Tryz.prog fn fun x w' => x = .returned (.bool true) ∧ Keep NoF w0 w') a w → K a w)
    (K1 : Keep NoF w0 w) {ρ0 : Ren} {nx0 : Pa} (H : HR ρ0 .lf nx0 w) (hv : Inv ρ0 .lf w) (α : T AV) (hnt : fn.ntmps ≤ a.tmps.size) (hdf : a.defers = []) (hT : TR ρ0 α a.tmps) (ho : okRes Tryz.prog fn.results.toList = true) (e : runD fn sp (.seq A B) α nx0 = true) :
    Code.wp Tryz.prog A (Exit.then K (bodyPost Tryz.prog fn fun x w' => x = .returned (.bool true) ∧ Keep NoF w0 w')) a w := by
  rw [allD_seq] at hA
  obtain ⟨fa, ha, h1⟩ := codeD_ok (c := cX) hI mixed okCX A hA.1
  obtain ⟨fb, hb, h2⟩ := codeD_ok (c := cX) hI mixed okCX B hA.2
  have hs : codeD Tryz.prog fn.ntmps sp (.seq A B) = .mk fun c tm h nx => seqD fa fb c tm h nx := by
    show Cx.rec (motive := fun _ => Cx) (fun fa => Cx.rec (motive := fun _ => Cx) (fun fb => .mk fun c tm h nx => seqD fa fb c tm h nx) (codeD Tryz.prog fn.ntmps sp B)) (codeD Tryz.prog fn.ntmps sp A) = _
    rw [ha, hb]
  unfold runD at e
  rw [hs] at e
  have e : okT (fin (cRes Tryz.prog fn.results.toList) (Rc.rec (motive := fun _ => Rc) (fun n => .bad n) (fun tm h nx => fb cX tm h nx) (fun id tm h nx => .ex id tm h nx) (fun tm h nx => .rt tm h nx) (fa cX α .lf nx0))) = true := e
  refine wp_mono (h1 H hT hnt hv fun n' q => by rw [q] at e; cases e) fun x a1 w1 q => ?_
  cases x with
  | normal =>
    obtain ⟨α1, h1', n1, ρ1, q1, g⟩ := q
    rw [q1] at e
    have e : okT (fin (cRes Tryz.prog fn.results.toList) (fb cX α1 h1' n1)) = true := e
    exact hK _ _ (wp_mono (h2 g.hr g.tr (by rw [g.sz]; exact hnt) (hI hv g) fun n' q => by rw [q] at e; cases e) fun x a' w' q2 => outD_post K1 hdf ho (Out.shift g _ _ _ q2) e)
  | ret => obtain ⟨α', h1, n1, ρ', q1, q2⟩ := q; rw [q1] at e; exact outD_post (x := .ret) K1 hdf ho ⟨α', h1, n1, ρ', rfl, q2⟩ e
  | exit id => obtain ⟨α', h1, n1, ρ', q1, q2⟩ := q; rw [q1] at e; cases e
  | goto l => exact q.elim
  | panic ch => exact q.elim
  | outgrown => exact q.elim
noncomputable def noSp : Nat → Option SpD := fun _ => none
theorem allD_none (Inv : Ren → Hp → World → Prop) (nt : Nat) (x : Code) : allD (fun id ops d => ∀ F, noSp id = some F → SpDOk Tryz.prog Inv nt F id ops d) x := by
  induction x with
  | seq a b iha ihb => exact ⟨iha, ihb⟩
  | cond x a b iha ihb => exact ⟨iha, ihb⟩
  | block i a ih => exact ih
  | loop a ih => exact ih
  | region i o d => exact fun F e => nomatch (show (none : Option SpD) = some F from e)
  | _ => exact trivial
/-- The rest of a function's code, at a seam of the walk. -/
theorem rest_D {fn : Func} {A B : Code} {K : Act → World → Prop} {a : Act} {w0 w : World} (hK : ∀ a w, Code.wp Tryz.prog B (bodyPost Tryz.prog fn fun x w' => x = .returned (.bool true) ∧ Keep NoF w0 w') a w → K a w)
    (K1 : Keep NoF w0 w) (α : T AV) (hnt : fn.ntmps ≤ a.tmps.size) (hdf : a.defers = []) (hT : TR (fun _ => none) α a.tmps) (ho : okRes Tryz.prog fn.results.toList = true) (e : runD fn noSp (.seq A B) α .e = true) :
    Code.wp Tryz.prog A (Exit.then K (bodyPost Tryz.prog fn fun x w' => x = .returned (.bool true) ∧ Keep NoF w0 w')) a w :=
  restI_D (Inv := fun _ _ _ => True) (fun _ _ => trivial) (allD_none _ _ _) hK K1 (H00 w) trivial α hnt hdf hT ho e
end Go.Proofs.YtkjdclpneaepkaaGreat
