/- Code reckoned with choices: what goes on may be given new names. -/
import Derived.Test.YtkjdclpneaepkaaGreatEv54
set_option linter.unusedVariables false
open Go
namespace Go.Ev.Cg
open Go.Ev.Ch (SpF kReg kSeq kBlk kLoop kCond evK noD evR_keep keeps0 allR)
section
variable {P : Program} {c : CallF} {nt : Nat} {S : Type}
/-- What a step leaves: names may be new. -/
structure Stp2 (ρ : Ren) (h : Hp) (w : World) (ρ' : Ren) (h' : Hp) (w' : World) : Prop where
  os : w'.os = w.os
  tape : w'.tape = w.tape
  output : w'.output = w.output
  size : w.heap.size ≤ w'.heap.size
  keep : ∀ g, g < w.heap.size → ¬ Own ρ h g → w'.heap[g]? = w.heap[g]?
  own : ∀ g, Own ρ' h' g → Own ρ h g ∨ w.heap.size ≤ g
theorem Stp2.of {ρ : Ren} {h : Hp} {w : World} {ρ' : Ren} {h' : Hp} {w' : World} (s : Stp ρ h w ρ' h' w') : Stp2 ρ h w ρ' h' w' := ⟨s.os, s.tape, s.output, s.size, s.keep, s.own⟩
theorem Stp2.trans {ρ ρ' ρ'' : Ren} {h h' h'' : Hp} {w w' w'' : World} (a : Stp2 ρ h w ρ' h' w') (b : Stp2 ρ' h' w' ρ'' h'' w'') : Stp2 ρ h w ρ'' h'' w'' :=
  ⟨b.os.trans a.os, b.tape.trans a.tape, b.output.trans a.output, Nat.le_trans a.size b.size,
   fun g hg hn => (b.keep g (Nat.lt_of_lt_of_le hg a.size) (fun o => (a.own g o).elim hn (fun l => by omega))).trans (a.keep g hg hn),
   fun g o => (b.own g o).elim (a.own g) (fun l => .inr (Nat.le_trans a.size l))⟩
structure Good (ρ : Ren) (h : Hp) (a : Act) (w : World) (ρ' : Ren) (α' : T AV) (h' : Hp) (nx' : Pa) (a' : Act) (w' : World) : Prop where
  tr : TR ρ' α' a'.tmps
  hr : HR ρ' h' nx' w'
  st : Stp2 ρ h w ρ' h' w'
  sz : a'.tmps.size = a.tmps.size
  df : a'.defers = a.defers
theorem Good.of {ρ : Ren} {h : Hp} {a : Act} {w : World} {ρ' : Ren} {α' : T AV} {h' : Hp} {nx' : Pa} {a' : Act} {w' : World} (g : Go.Ev.Good ρ h a w ρ' α' h' nx' a' w') : Good ρ h a w ρ' α' h' nx' a' w' := ⟨g.tr, g.hr, .of g.st, g.sz, g.df⟩
theorem Good.trans {ρ ρ1 ρ2 : Ren} {h h1 h2 : Hp} {a a1 a2 : Act} {w w1 w2 : World} {α1 α2 : T AV} {n1 n2 : Pa} (x : Good ρ h a w ρ1 α1 h1 n1 a1 w1) (y : Good ρ1 h1 a1 w1 ρ2 α2 h2 n2 a2 w2) : Good ρ h a w ρ2 α2 h2 n2 a2 w2 :=
  ⟨y.tr, y.hr, x.st.trans y.st, y.sz.trans x.sz, y.df.trans x.df⟩
def KOut (Inv : S → Ren → T AV → Hp → World → Prop) (K : S → Rc → Bool) (ρ : Ren) (h : Hp) (a : Act) (w : World) : Exit → Act → World → Prop
  | .normal, a', w' => ∃ s α' h' nx' ρ', K s (.nx α' h' nx') = true ∧ Inv s ρ' α' h' w' ∧ Good ρ h a w ρ' α' h' nx' a' w'
  | .exit id, a', w' => ∃ s α' h' nx' ρ', K s (.ex id α' h' nx') = true ∧ Inv s ρ' α' h' w' ∧ Good ρ h a w ρ' α' h' nx' a' w'
  | .ret, a', w' => ∃ s α' h' nx' ρ', K s (.rt α' h' nx') = true ∧ Inv s ρ' α' h' w' ∧ Good ρ h a w ρ' α' h' nx' a' w'
  | _, _, _ => False
/-- A special region: what it leaves is among what it may leave. -/
def SpOk (P : Program) (Inv : S → Ren → T AV → Hp → World → Prop) (nt : Nat) (F : SpF S) (id : Nat) (ops : Array Oper) (draw : Bool) : Prop :=
  ∀ {s : S} {ρ : Ren} {α : T AV} {a : Act} {w : World} {h : Hp} {nx : Pa} (k : S → T AV → Hp → Pa → Bool), HR ρ h nx w → TR ρ α a.tmps → nt ≤ a.tmps.size → Inv s ρ α h w → F s α h nx k = true →
    Code.wp P (.region id ops draw) (fun e a' w' => e = .normal ∧ ∃ s' α' h' nx' ρ', k s' α' h' nx' = true ∧ Inv s' ρ' α' h' w' ∧ Good ρ h a w ρ' α' h' nx' a' w') a w
theorem SpOk.of {Inv : S → Ren → T AV → Hp → World → Prop} {F : SpF S} {id : Nat} {ops : Array Oper} {d : Bool} (h : Go.Ev.Ch.SpOk P Inv nt F id ops d) : SpOk P Inv nt F id ops d :=
  fun k H hT hnt hv hF => wp_mono (h k H hT hnt hv hF) fun e a' w' ⟨h1, s', α', h', nx', ρ', h2, h3, h4⟩ => ⟨h1, s', α', h', nx', ρ', h2, h3, .of h4⟩
variable {sp : Nat → Option (SpF S)} {Inv : S → Ren → T AV → Hp → World → Prop}
theorem KOut.shift {K : S → Rc → Bool} {ρ ρ1 : Ren} {h h1 : Hp} {a a1 : Act} {w w1 : World} {α1 : T AV} {n1 : Pa} (g : Good ρ h a w ρ1 α1 h1 n1 a1 w1) : ∀ e a' w', KOut Inv K ρ1 h1 a1 w1 e a' w' → KOut Inv K ρ h a w e a' w' := fun e a' w' ho => by
  cases e with
  | normal => obtain ⟨s, α', h', nx', ρ', h1, h2, h3⟩ := ho; exact ⟨s, α', h', nx', ρ', h1, h2, g.trans h3⟩
  | exit id => obtain ⟨s, α', h', nx', ρ', h1, h2, h3⟩ := ho; exact ⟨s, α', h', nx', ρ', h1, h2, g.trans h3⟩
  | ret => obtain ⟨s, α', h', nx', ρ', h1, h2, h3⟩ := ho; exact ⟨s, α', h', nx', ρ', h1, h2, g.trans h3⟩
  | goto l => exact ho.elim
  | panic ch => exact ho.elim
  | outgrown => exact ho.elim
abbrev Kok (P : Program) (Inv : S → Ren → T AV → Hp → World → Prop) (nt : Nat) (x : Code) (f : S → T AV → Hp → Pa → (S → Rc → Bool) → Bool) : Prop :=
  ∀ {s : S} {ρ : Ren} {α : T AV} {a : Act} {w : World} {h : Hp} {nx : Pa} (K : S → Rc → Bool), HR ρ h nx w → TR ρ α a.tmps → nt ≤ a.tmps.size → Inv s ρ α h w → f s α h nx K = true → x.wp P (KOut Inv K ρ h a w) a w
/-- A run that goes on behind what was reckoned. -/
theorem kthen {K K' : S → Rc → Bool} {N : Act → World → Prop} {ρ : Ren} {h : Hp} {a : Act} {w : World} (hn : ∀ s α' h' nx' ρ' a' w', K' s (.nx α' h' nx') = true → Inv s ρ' α' h' w' → Good ρ h a w ρ' α' h' nx' a' w' → N a' w') (he : ∀ s id α' h' nx', K' s (.ex id α' h' nx') = true → K s (.ex id α' h' nx') = true) (hr : ∀ s α' h' nx', K' s (.rt α' h' nx') = true → K s (.rt α' h' nx') = true) :
    ∀ e a' w', KOut Inv K' ρ h a w e a' w' → Exit.then N (KOut Inv K ρ h a w) e a' w' := fun e a' w' ho => by
  cases e with
  | normal => obtain ⟨s, α', h', nx', ρ', h1, h2, h3⟩ := ho; exact hn _ _ _ _ _ _ _ h1 h2 h3
  | exit id => obtain ⟨s, α', h', nx', ρ', h1, h2, h3⟩ := ho; exact ⟨s, α', h', nx', ρ', he _ _ _ _ _ h1, h2, h3⟩
  | ret => obtain ⟨s, α', h', nx', ρ', h1, h2, h3⟩ := ho; exact ⟨s, α', h', nx', ρ', hr _ _ _ _ h1, h2, h3⟩
  | goto l => exact ho.elim
  | panic ch => exact ho.elim
  | outgrown => exact ho.elim
theorem kloop_ok {x : Code} {f : S → T AV → Hp → Pa → (S → Rc → Bool) → Bool} (ih : Kok P Inv nt x f) (K : S → Rc → Bool) :
    ∀ (n : Nat) {s : S} {ρ : Ren} {α : T AV} {a : Act} {w : World} {h : Hp} {nx : Pa}, HR ρ h nx w → TR ρ α a.tmps → nt ≤ a.tmps.size → Inv s ρ α h w → kLoop f K n s α h nx = true → Code.rounds P x (KOut Inv K ρ h a w) n a w := by
  intro n
  induction n with
  | zero => intro s ρ α a w h nx H hT hnt hv hb; cases hb
  | succ n ihn =>
    intro s ρ α a w h nx H hT hnt hv hb
    have hb : f s α h nx (fun s r => Rc.rec (motive := fun _ => Bool) (fun _ => false) (fun tm h nx => kLoop f K n s tm h nx) (fun id tm h nx => K s (.ex id tm h nx)) (fun tm h nx => K s (.rt tm h nx)) r) = true := hb
    rw [rounds_succ]
    refine wp_mono (ih _ H hT hnt hv hb) (kthen (fun s α' h' nx' ρ' a' w' q hv' g => ?_) (fun s id α' h' nx' q => q) (fun s α' h' nx' q => q))
    exact rounds_mono (KOut.shift g) n a' w' (ihn g.hr g.tr (by rw [g.sz]; exact hnt) hv' q)
theorem evK_ok (hm : P.follows .mixedOrders = true) (hC : CallOk P c) (hI : ∀ {s ρ α h a w ρ' α' h' nx' a' w'}, Inv s ρ α h w → getP (path 0) α' = getP (path 0) α → Go.Ev.Good ρ h a w ρ' α' h' nx' a' w' → Inv s ρ' α' h' w') :
    ∀ (k : Code), keeps0 (P := P) (nt := nt) sp k = true → allR (fun id ops d => ∀ F, sp id = some F → SpOk P Inv nt F id ops d) k → Kok P Inv nt k (evK P c nt sp k) := by
  intro k
  induction k with
  | skip => exact fun _ _ {s ρ α a w h nx} K H hT hnt hv hb => wp_skip ⟨s, α, h, nx, ρ, hb, hv, hT, H, Stp2.of (Stp.refl _ _ _), rfl, rfl⟩
  | region id ops draw =>
    intro hz hA s ρ α a w h nx K H hT hnt hv hb
    have hA : ∀ F, sp id = some F → SpOk P Inv nt F id ops draw := hA
    have hb : Option.rec (motive := fun _ => Bool) (kReg K s (evC (.reg (cR P nt draw ops)) c α h nx)) (fun F => F s α h nx fun s tm h nx => K s (.nx tm h nx)) (sp id) = true := hb
    cases hs : sp id with
    | none =>
      rw [hs] at hb
      have hz : Option.rec (motive := fun _ => Bool) (noD (path 0) (cR P nt draw ops)) (fun _ => true) (sp id) = true := hz
      rw [hs] at hz
      have hb : kReg K s (evC (cC P nt (.region id ops draw)) c α h nx) = true := hb
      have hE : ∀ n, evC (cC P nt (.region id ops draw)) c α h nx ≠ .bad n := fun n q => by rw [q] at hb; cases hb
      refine wp_mono (code_ok hm hC (.region id ops draw) H hT hnt hE) fun e a' w' ho => ?_
      revert hb
      cases e with
      | normal => obtain ⟨α', h', nx', ρ', h1, g⟩ := ho; have hk := evR_keep hz (show evR c (cR P nt draw ops) α h nx = _ from h1); rw [h1]; exact fun q => ⟨s, α', h', nx', ρ', q, hI hv hk g, .of g⟩
      | exit id => obtain ⟨α', h', nx', ρ', h1, -⟩ := ho; rw [h1]; intro q; cases q
      | ret => obtain ⟨α', h', nx', ρ', h1, -⟩ := ho; rw [h1]; intro q; cases q
      | goto l => exact ho.elim
      | panic ch => exact ho.elim
      | outgrown => exact ho.elim
    | some F =>
      rw [hs] at hb
      refine wp_mono (hA F hs _ H hT hnt hv hb) fun e a' w' ⟨he, s', α', h', nx', ρ', q, hv', g⟩ => ?_
      subst he
      exact ⟨s', α', h', nx', ρ', q, hv', g⟩
  | seq x y ihx ihy =>
    intro hz hA s ρ α a w h nx K H hT hnt hv hb
    obtain ⟨hz1, hz2⟩ := and_ok (show (keeps0 (P := P) (nt := nt) sp x && keeps0 (P := P) (nt := nt) sp y) = true from hz)
    have hA : allR (fun id ops d => ∀ F, sp id = some F → SpOk P Inv nt F id ops d) x ∧ allR (fun id ops d => ∀ F, sp id = some F → SpOk P Inv nt F id ops d) y := hA
    refine wp_seq (wp_mono (ihx hz1 hA.1 (kSeq (evK P c nt sp y) K) H hT hnt hv hb) (kthen (fun s α' h' nx' ρ' a' w' q hv' g => ?_) (fun s id α' h' nx' q => q) (fun s α' h' nx' q => q)))
    exact wp_mono (ihy hz2 hA.2 K g.hr g.tr (by rw [g.sz]; exact hnt) hv' q) (KOut.shift g)
  | cond x y z ihy ihz =>
    intro hz hA s ρ α a w h nx K H hT hnt hv hb
    obtain ⟨hz1, hz2⟩ := and_ok (show (keeps0 (P := P) (nt := nt) sp y && keeps0 (P := P) (nt := nt) sp z) = true from hz)
    have hA : allR (fun id ops d => ∀ F, sp id = some F → SpOk P Inv nt F id ops d) y ∧ allR (fun id ops d => ∀ F, sp id = some F → SpOk P Inv nt F id ops d) z := hA
    have hb : kCond (xo x) (evK P c nt sp y) (evK P c nt sp z) s α h nx K = true := hb
    unfold kCond at hb
    cases e1 : eX (xo x) α with
    | none => rw [e1] at hb; cases hb
    | some v =>
      rw [e1] at hb
      have hxv := hT.x x v e1
      simp only at hb
      split at hb
      · rename_i t
        refine wp_cond (t := t) hxv ?_
        cases t with
        | true => exact ihy hz1 hA.1 K H hT hnt hv hb
        | false => exact ihz hz2 hA.2 K H hT hnt hv hb
      · cases hb
  | block id x ih =>
    intro hz hA s ρ α a w h nx K H hT hnt hv hb
    refine wp_block (wp_mono (ih hz hA (kBlk id K) H hT hnt hv hb) fun ex a' w' ho => ?_)
    cases ex with
    | normal => obtain ⟨s, α', h', nx', ρ', h1, h2, h3⟩ := ho; exact ⟨s, α', h', nx', ρ', h1, h2, h3⟩
    | exit j =>
      obtain ⟨s, α', h', nx', ρ', hK, h2, h3⟩ := ho
      have hK : (bif Nat.beq j id then K s (.nx α' h' nx') else K s (.ex j α' h' nx')) = true := hK
      show if j = id then _ else _
      by_cases hj : j = id
      · subst hj
        rw [if_pos rfl]
        rw [Nat.beq_refl, cond_true] at hK
        exact ⟨s, α', h', nx', ρ', hK, h2, h3⟩
      · rw [if_neg hj]
        have : Nat.beq j id = false := by cases q : Nat.beq j id with | false => rfl | true => exact absurd (Nat.eq_of_beq_eq_true q) hj
        rw [this, cond_false] at hK
        exact ⟨s, α', h', nx', ρ', hK, h2, h3⟩
    | ret => obtain ⟨s, α', h', nx', ρ', h1, h2, h3⟩ := ho; exact ⟨s, α', h', nx', ρ', h1, h2, h3⟩
    | goto l => exact ho.elim
    | panic ch => exact ho.elim
    | outgrown => exact ho.elim
  | loop x ih =>
    intro hz hA s ρ α a w h nx K H hT hnt hv hb
    have hb : kLoop (evK P c nt sp x) K 100000 s α h nx = true := hb
    exact wp_loop_rounds 100000 (kloop_ok (ih hz hA) K 100000 H hT hnt hv hb)
  | exit id => exact fun _ _ {s ρ α a w h nx} K H hT hnt hv hb => wp_exit ⟨s, α, h, nx, ρ, hb, hv, hT, H, Stp2.of (Stp.refl _ _ _), rfl, rfl⟩
  | ret => exact fun _ _ {s ρ α a w h nx} K H hT hnt hv hb => wp_ret ⟨s, α, h, nx, ρ, hb, hv, hT, H, Stp2.of (Stp.refl _ _ _), rfl, rfl⟩
  | _ => exact fun _ _ {s ρ α a w h nx} K H hT hnt hv hb => (by cases hb)
end
end Go.Ev.Cg
