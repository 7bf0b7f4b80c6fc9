/- A law's rest, reckoned in pieces: between them memory may be written down, without what nobody reaches. -/
import Derived.Test.YtkjdclpneaepkaaGreatEv71
import Derived.Test.YtkjdclpneaepkaaGreatEv59
set_option linter.unusedVariables false
open Go Go.Ev Go.RowKit
namespace Go.Proofs.YtkjdclpneaepkaaGreat
open Go.Proofs
/-- Where the world stands as this frame and this memory say; behind w0 nothing that was there is turned. -/
def Cfg (w0 : World) (nt : Nat) (α : T AV) (h : Hp) (nx : Pa) (a : Act) (w : World) : Prop :=
  Keep NoF w0 w ∧ nt ≤ a.tmps.size ∧ a.defers = [] ∧ ∃ ρ, HR ρ h nx w ∧ TR ρ α a.tmps ∧ ∀ g, Own ρ h g → w0.heap.size ≤ g
noncomputable def ev (nt : Nat) (k : Code) (α : T AV) (h : Hp) (nx : Pa) : Rc := Cx.rec (motive := fun _ => Rc) (fun f => f cY α h nx) (codeD Tryz.prog nt noSp k)
noncomputable def evF (nt : Nat) (k : Code) : CallF → T AV → Hp → Pa → Rc := Cx.rec (motive := fun _ => CallF → T AV → Hp → Pa → Rc) (fun f => f) (codeD Tryz.prog nt noSp k)
noncomputable def isNx (r : Rc) : Bool := Rc.rec (motive := fun _ => Bool) (fun _ => false) (fun _ _ _ => true) (fun _ _ _ _ => false) (fun _ _ _ => false) r
noncomputable def rA (r : Rc) : T AV := Rc.rec (motive := fun _ => T AV) (fun _ => .lf) (fun t _ _ => t) (fun _ t _ _ => t) (fun t _ _ => t) r
noncomputable def rH (r : Rc) : Hp := Rc.rec (motive := fun _ => Hp) (fun _ => .lf) (fun _ h _ => h) (fun _ _ h _ => h) (fun _ h _ => h) r
noncomputable def rN (r : Rc) : Pa := Rc.rec (motive := fun _ => Pa) (fun _ => .e) (fun _ _ n => n) (fun _ _ _ n => n) (fun _ _ n => n) r
/-- The next piece. -/
noncomputable def nxt (nt : Nat) (k : Code) (r : Rc) : Rc := Rc.rec (motive := fun _ => Rc) (fun n => .bad n) (fun t h n => ev nt k t h n) (fun id t h n => .ex id t h n) (fun t h n => .rt t h n) r
/-- Where a world stands, if the reckoning has come so far. -/
def At (w0 : World) (nt : Nat) (r : Rc) (a : Act) (w : World) : Prop := ∃ α h nx, r = .nx α h nx ∧ Cfg w0 nt α h nx a w
theorem evF_ok (nt : Nat) (k : Code) : (∀ α h nx, ev nt k α h nx = evF nt k cY α h nx) ∧ DOk Tryz.prog (fun _ _ _ => True) nt cY k (evF nt k) := by
  obtain ⟨f, hf, h1⟩ := codeD_ok (c := cY) (Inv := fun _ _ _ => True) (sp := noSp) (nt := nt) (fun _ _ => trivial) mixed okCY k (allD_none _ _ _)
  constructor
  · intro α h nx; unfold ev evF; rw [hf]
  · unfold evF; rw [hf]; exact h1
section
variable {w0 : World} {nt : Nat}
theorem Cfg.good {h : Hp} {a : Act} {w : World} {ρ : Ren} {α' : T AV} {h' : Hp} {nx' : Pa} {a' : Act} {w' : World} (K : Keep NoF w0 w) (hn : nt ≤ a.tmps.size) (hd : a.defers = []) (ho : ∀ g, Own ρ h g → w0.heap.size ≤ g) {ρ' : Ren} (g : Go.Ev.Good ρ h a w ρ' α' h' nx' a' w') : Cfg w0 nt α' h' nx' a' w' :=
  ⟨⟨g.st.os.trans K.os, g.st.tape.trans K.tape, g.st.output.trans K.output, Nat.le_trans K.size g.st.size, fun k hk hf => (g.st.keep k (Nat.lt_of_lt_of_le hk K.size) (fun o => absurd hk (by have := ho k o; omega))).trans (K.block k hk hf)⟩, by rw [g.sz]; exact hn, g.df.trans hd, ρ', g.hr, g.tr, fun k o => (g.st.own k o).elim (ho k) (fun q => Nat.le_trans K.size q)⟩
theorem At.step {k : Code} {r : Rc} {a : Act} {w : World} (c : At w0 nt r a w) (e : isNx (nxt nt k r) = true) : k.wp Tryz.prog (fun x a' w' => x = .normal ∧ At w0 nt (nxt nt k r) a' w') a w := by
  obtain ⟨α, h, nx, rfl, K, hn, hd, ρ, H, hT, ho⟩ := c
  obtain ⟨e1, e2⟩ := evF_ok nt k
  have e3 : nxt nt k (.nx α h nx) = evF nt k cY α h nx := e1 α h nx
  rw [e3] at e ⊢
  refine wp_mono (e2 H hT hn trivial fun n q => by rw [q] at e; cases e) fun x a' w' q => ?_
  cases x with
  | normal => obtain ⟨α', h', nx', ρ', q1, g⟩ := q; exact ⟨rfl, α', h', nx', q1, Cfg.good K hn hd ho g⟩
  | ret => obtain ⟨α', h', nx', ρ', q1, g⟩ := q; rw [q1] at e; cases e
  | exit id => obtain ⟨α', h', nx', ρ', q1, g⟩ := q; rw [q1] at e; cases e
  | goto l => exact q.elim
  | panic ch => exact q.elim
  | outgrown => exact q.elim
/-- A piece, and what comes behind it. -/
theorem At.seq {x y : Code} {Q : Exit → Act → World → Prop} {r : Rc} {a : Act} {w : World} (c : At w0 nt r a w) (e : isNx (nxt nt x r) = true) (h : ∀ a' w', At w0 nt (nxt nt x r) a' w' → y.wp Tryz.prog Q a' w') : (Code.seq x y).wp Tryz.prog Q a w :=
  wp_seq (wp_mono (c.step e) fun ex a' w' ⟨q1, q2⟩ => by subst q1; exact h a' w' q2)
theorem At.first {x : Code} {K : Act → World → Prop} {Q : Exit → Act → World → Prop} {r : Rc} {a : Act} {w : World} (c : At w0 nt r a w) (e : isNx (nxt nt x r) = true) (h : ∀ a' w', At w0 nt (nxt nt x r) a' w' → K a' w') : x.wp Tryz.prog (Exit.then K Q) a w :=
  wp_mono (c.step e) fun ex a' w' ⟨q1, q2⟩ => by subst q1; exact h a' w' q2
theorem At.round {x : Code} {Q : Exit → Act → World → Prop} {n : Nat} {r : Rc} {a : Act} {w : World} (c : At w0 nt r a w) (e : isNx (nxt nt x r) = true) (h : ∀ a' w', At w0 nt (nxt nt x r) a' w' → Code.rounds Tryz.prog x Q n a' w') : Code.rounds Tryz.prog x Q (n + 1) a w := by
  rw [rounds_succ]
  exact wp_mono (c.step e) fun ex a' w' ⟨q1, q2⟩ => by subst q1; exact h a' w' q2
/-- Memory written down. -/
theorem At.lit {ks : List Nat} {r : Rc} {αL : T AV} {hL : Hp} {nL : Pa} {a : Act} {w : World} (c : At w0 nt r a w) (e : ∀ k : T AV → Hp → Pa → Bool, Cg.gcK ks (rA r) (rH r) k = k αL hL nL) : At w0 nt (.nx αL hL nL) a w := by
  obtain ⟨α, h, nx, rfl, K, hn, hd, ρ, H, hT, ho⟩ := c
  classical
  have q := e fun α' h' nx' => decide (α' = αL ∧ h' = hL ∧ nx' = nL)
  simp only [and_self, decide_true] at q
  obtain ⟨α', h', N, k1, -, k2⟩ := Cg.gcK_ok q
  obtain ⟨rfl, rfl, k3⟩ := of_decide_eq_true k1
  obtain ⟨H', T', S'⟩ := k2 H hT
  rw [k3] at H'
  exact ⟨_, _, _, rfl, K, hn, hd, _, H', T', fun g o => (S'.own g o).elim (ho g) fun q => Nat.le_trans K.size q⟩
theorem At.start {α : T AV} {a : Act} {w : World} (K : Keep NoF w0 w) (hn : nt ≤ a.tmps.size) (hd : a.defers = []) (hT : TR (fun _ => none) α a.tmps) : At w0 nt (.nx α .lf .e) a w :=
  ⟨_, _, _, rfl, K, hn, hd, _, H00 w, hT, fun g ⟨id, b, t, q, _⟩ => by rw [getP_lf] at q; cases q⟩
theorem fin_post {fn : Func} {r : Rc} {h : Hp} {ρ : Ren} {a a' : Act} {w w' : World} {x : Exit} (K : Keep NoF w0 w) (hn : nt ≤ a.tmps.size) (hd : a.defers = []) (ho : ∀ g, Own ρ h g → w0.heap.size ≤ g) (hr : okRes Tryz.prog fn.results.toList = true) (q : Out r ρ h a w x a' w') (e : okT (fin (cRes Tryz.prog fn.results.toList) r) = true) :
    bodyPost Tryz.prog fn (fun x w' => x = .returned (.bool true) ∧ Keep NoF w0 w') x a' w' := by
  have fine : ∀ {α' : T AV} {h1 : Hp} {n1 : Pa} {ρ' : Ren}, Go.Ev.Good ρ h a w ρ' α' h1 n1 a' w' → okT (Option.casesOn (outV (cRes Tryz.prog fn.results.toList) α' h1) (.bad 71) fun v => .ok v h1 n1 : Rv) = true →
      a'.defers = [] ∧ ∃ v, (results fn a'.tmps).run Tryz.prog w' = .ok v w' ∧ Ending.returned v = .returned (.bool true) ∧ Keep NoF w0 w' := fun {α' h1 n1 ρ'} g e => by
    cases e1 : outV (cRes Tryz.prog fn.results.toList) α' h1 with
    | none => rw [e1] at e; cases e
    | some v =>
      rw [e1] at e
      obtain ⟨u, h4, h5⟩ := results_ok g.hr g.tr hr e1
      obtain ⟨k1, k2, k3, -⟩ := Cfg.good (nt := nt) K hn hd ho g
      refine ⟨k3, u, h5, ?_, k1⟩
      cases v <;> first
        | (cases (show _ = true from e); rw [show u = _ from h4])
        | cases e
  cases x with
  | normal => obtain ⟨α', h1, n1, ρ', q1, q2⟩ := q; subst q1; exact fine q2 e
  | ret => obtain ⟨α', h1, n1, ρ', q1, q2⟩ := q; subst q1; exact fine q2 e
  | exit id => obtain ⟨α', h1, n1, ρ', q1, q2⟩ := q; subst q1; cases e
  | goto l => exact q.elim
  | panic ch => exact q.elim
  | outgrown => exact q.elim
/-- The last piece. -/
theorem At.last {fn : Func} {x : Code} {r : Rc} {a : Act} {w : World} (c : At w0 nt r a w) (hr : okRes Tryz.prog fn.results.toList = true) (e : okT (fin (cRes Tryz.prog fn.results.toList) (nxt nt x r)) = true) : x.wp Tryz.prog (bodyPost Tryz.prog fn fun x w' => x = .returned (.bool true) ∧ Keep NoF w0 w') a w := by
  obtain ⟨α, h, nx, rfl, K, hn, hd, ρ, H, hT, ho⟩ := c
  obtain ⟨e1, e2⟩ := evF_ok nt x
  have e3 : nxt nt x (.nx α h nx) = evF nt x cY α h nx := e1 α h nx
  rw [e3] at e
  exact wp_mono (e2 H hT hn trivial fun n q => by rw [q] at e; cases e) fun y a' w' q => fin_post K hn hd ho hr q e
/-- What is left of a loop, and the last piece behind it. -/
noncomputable def lpN (nt : Nat) (x : Code) (id n : Nat) (r : Rc) : Rc := Rc.rec (motive := fun _ => Rc) (fun n => .bad n) (fun t h nx => bl2 id (lpX (evF nt x) cY n t h nx)) (fun id t h n => .ex id t h n) (fun t h n => .rt t h n) r
theorem At.loop {fn : Func} {x y : Code} {id n : Nat} {r : Rc} {a : Act} {w : World} (c : At w0 nt r a w) (hr : okRes Tryz.prog fn.results.toList = true) (e : okT (fin (cRes Tryz.prog fn.results.toList) (nxt nt y (lpN nt x id n r))) = true) :
    Code.rounds Tryz.prog x (Exit.inBlock id (Exit.then (fun a w => y.wp Tryz.prog (bodyPost Tryz.prog fn fun x w' => x = .returned (.bool true) ∧ Keep NoF w0 w') a w) (bodyPost Tryz.prog fn fun x w' => x = .returned (.bool true) ∧ Keep NoF w0 w'))) n a w := by
  obtain ⟨α, h, nx, rfl, K, hn, hd, ρ, H, hT, ho⟩ := c
  obtain ⟨e1, e2⟩ := evF_ok nt x
  have e : okT (fin (cRes Tryz.prog fn.results.toList) (nxt nt y (bl2 id (lpX (evF nt x) cY n α h nx)))) = true := e
  have hl := lpD_ok (Inv := fun _ _ _ => True) (nt := nt) (fun _ _ => trivial) e2 n H hT hn trivial fun k q => by rw [q] at e; cases e
  refine rounds_mono (fun ex a' w' q => ?_) n a w hl
  revert q e
  generalize lpX (evF nt x) cY n α h nx = r1
  intro e q
  have go : ∀ {α' : T AV} {h' : Hp} {n' : Pa} {ρ' : Ren}, Go.Ev.Good ρ h a w ρ' α' h' n' a' w' → okT (fin (cRes Tryz.prog fn.results.toList) (nxt nt y (.nx α' h' n'))) = true → y.wp Tryz.prog (bodyPost Tryz.prog fn fun x w' => x = .returned (.bool true) ∧ Keep NoF w0 w') a' w' := fun {α' h' n' ρ'} g e =>
    At.last ⟨α', h', n', rfl, Cfg.good K hn hd ho g⟩ hr e
  cases ex with
  | normal => obtain ⟨α', h', n', ρ', q1, g⟩ := q; subst q1; exact go g e
  | exit j =>
    obtain ⟨α', h', n', ρ', q1, g⟩ := q
    subst q1
    have e : okT (fin (cRes Tryz.prog fn.results.toList) (nxt nt y (ifR (Nat.beq j id) (.nx α' h' n') (.ex j α' h' n')))) = true := e
    show if j = id then _ else _
    cases hj : Nat.beq j id with
    | true => rw [hj] at e; rw [if_pos (Nat.eq_of_beq_eq_true hj)]; exact go g e
    | false => rw [hj] at e; cases e
  | ret => obtain ⟨α', h', n', ρ', q1, g⟩ := q; subst q1; exact fin_post (x := .ret) K hn hd ho hr (r := .rt α' h' n') ⟨α', h', n', ρ', rfl, g⟩ e
  | goto l => exact q.elim
  | panic ch => exact q.elim
  | outgrown => exact q.elim
end
end Go.Proofs.YtkjdclpneaepkaaGreat
