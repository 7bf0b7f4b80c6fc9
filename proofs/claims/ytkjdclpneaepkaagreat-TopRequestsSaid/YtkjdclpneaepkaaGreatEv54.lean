/- Code reckoned with choices, what was chosen kept in mind. -/
import Derived.Test.YtkjdclpneaepkaaGreatEvP3
set_option linter.unusedVariables false
open Go
namespace Go.Ev.Ch
section
variable (P : Program) (c : CallF) (nt : Nat) {S : Type}
/-- What a special region may leave: all of it must do. -/
abbrev SpF (S : Type) := S → T AV → Hp → Pa → (S → T AV → Hp → Pa → Bool) → Bool
noncomputable def kReg (k : S → Rc → Bool) (s : S) (r : Rc) : Bool := Rc.rec (motive := fun _ => Bool) (fun _ => false) (fun tm h nx => k s (.nx tm h nx)) (fun _ _ _ _ => false) (fun _ _ _ => false) r
noncomputable def kSeq (ib : S → T AV → Hp → Pa → (S → Rc → Bool) → Bool) (k : S → Rc → Bool) (s : S) (r : Rc) : Bool := Rc.rec (motive := fun _ => Bool) (fun _ => false) (fun tm h nx => ib s tm h nx k) (fun id tm h nx => k s (.ex id tm h nx)) (fun tm h nx => k s (.rt tm h nx)) r
noncomputable def kBlk (id : Nat) (k : S → Rc → Bool) (s : S) (r : Rc) : Bool := Rc.rec (motive := fun _ => Bool) (fun _ => false) (fun tm h nx => k s (.nx tm h nx)) (fun j tm h nx => bif Nat.beq j id then k s (.nx tm h nx) else k s (.ex j tm h nx)) (fun tm h nx => k s (.rt tm h nx)) r
noncomputable def kLoop (ia : S → T AV → Hp → Pa → (S → Rc → Bool) → Bool) (k : S → Rc → Bool) (n : Nat) : S → T AV → Hp → Pa → Bool := Nat.rec (motive := fun _ => S → T AV → Hp → Pa → Bool) (fun _ _ _ _ => false)
  (fun _ ih s tm h nx => ia s tm h nx fun s r => Rc.rec (motive := fun _ => Bool) (fun _ => false) (fun tm h nx => ih s tm h nx) (fun id tm h nx => k s (.ex id tm h nx)) (fun tm h nx => k s (.rt tm h nx)) r) n
noncomputable def kCond (x : XO) (ia ib : S → T AV → Hp → Pa → (S → Rc → Bool) → Bool) (s : S) (tm : T AV) (h : Hp) (nx : Pa) (k : S → Rc → Bool) : Bool := Option.rec (motive := fun _ => Bool) false (fun v => match v with | .b t => Bool.rec (motive := fun _ => Bool) (ib s tm h nx k) (ia s tm h nx k) t | _ => false) (eX x tm)
noncomputable def evK (sp : Nat → Option (SpF S)) (x : Code) : S → T AV → Hp → Pa → (S → Rc → Bool) → Bool :=
  Code.rec (motive := fun _ => S → T AV → Hp → Pa → (S → Rc → Bool) → Bool) (fun s tm h nx k => k s (.nx tm h nx))
    (fun id ops draw s tm h nx k => Option.rec (motive := fun _ => Bool) (kReg k s (evC (.reg (cR P nt draw ops)) c tm h nx)) (fun F => F s tm h nx fun s tm h nx => k s (.nx tm h nx)) (sp id))
    (fun _ _ ia ib s tm h nx k => ia s tm h nx (kSeq ib k))
    (fun x _ _ ia ib => kCond (xo x) ia ib)
    (fun id _ ia s tm h nx k => ia s tm h nx (kBlk id k))
    (fun _ ia s tm h nx k => kLoop ia k 100000 s tm h nx)
    (fun _ _ _ _ _ _ _ _ _ _ _ => false) (fun id s tm h nx k => k s (.ex id tm h nx)) (fun _ _ _ _ _ _ _ => false) (fun _ _ _ _ _ _ => false) (fun _ _ _ _ _ _ => false) (fun s tm h nx k => k s (.rt tm h nx)) (fun _ _ _ _ _ _ => false) x
end
section
variable {P : Program} {c : CallF} {nt : Nat} {S : Type}
/-- A place that a region doesn't write. -/
noncomputable def noD (q : Pa) (r : IR) : Bool := IR.rec (motive := fun _ => Bool) true (fun s _ _ ih => Option.rec (motive := fun _ => Bool) ih (fun p => Bool.rec (motive := fun _ => Bool) ih false (eqPa p q)) s.dst) r
theorem evR_keep {q : Pa} : ∀ {r : IR} (_ : noD q r = true) {tm : T AV} {h : Hp} {nx : Pa} {tm' : T AV} {h' : Hp} {nx' : Pa}, evR c r tm h nx = .nx tm' h' nx' → getP q tm' = getP q tm := by
  intro r
  induction r with
  | nil => intro _ tm h nx tm' h' nx' e; cases e; rfl
  | cons s ag r ih =>
    intro hn tm h nx tm' h' nx' e
    have hn : Option.rec (motive := fun _ => Bool) (noD q r) (fun p => Bool.rec (motive := fun _ => Bool) (noD q r) false (eqPa p q)) s.dst = true := hn
    have e : Rv.rec (motive := fun _ => Rc) (fun n => .bad n) (fun v h nx => putK s.dst v tm fun tm => List.rec (motive := fun _ => Rc) (evR c r tm h nx) (fun _ _ _ => bif again ag tm h nx then evR c r tm h nx else .bad 66) ag) (evS c s tm h nx) = .nx tm' h' nx' := e
    cases e1 : evS c s tm h nx with
    | bad n => rw [e1] at e; cases e
    | ok v h1 n1 =>
      rw [e1] at e
      have e : putK s.dst v tm (fun tm => List.rec (motive := fun _ => Rc) (evR c r tm h1 n1) (fun _ _ _ => bif again ag tm h1 n1 then evR c r tm h1 n1 else .bad 66) ag) = .nx tm' h' nx' := e
      rw [putK_eq] at e
      have hk : noD q r = true ∧ getP q (putD s.dst v tm) = getP q tm := by
        cases e2 : s.dst with
        | none => rw [e2] at hn; exact ⟨hn, rfl⟩
        | some p =>
          rw [e2] at hn
          have hn : Bool.rec (motive := fun _ => Bool) (noD q r) false (eqPa p q) = true := hn
          cases e3 : eqPa p q with
          | true => rw [e3] at hn; cases hn
          | false =>
            rw [e3] at hn
            refine ⟨hn, ?_⟩
            have hpq : q ≠ p := fun h => by subst h; rw [eqPa_refl] at e3; cases e3
            exact get_set_ne _ _ _ _ hpq
      have e : evR c r (putD s.dst v tm) h1 n1 = .nx tm' h' nx' := by
        cases ag with
        | nil => exact e
        | cons _ _ =>
          have e : (bif again _ _ h1 n1 then evR c r (putD s.dst v tm) h1 n1 else .bad 66) = .nx tm' h' nx' := e
          cases e4 : again _ (putD s.dst v tm) h1 n1 with
          | true => rw [e4] at e; exact e
          | false => rw [e4] at e; cases e
      rw [ih hk.1 e, hk.2]
/-- No region but the special ones writes the first place. -/
noncomputable def keeps0 (sp : Nat → Option (SpF S)) (x : Code) : Bool := Code.rec (motive := fun _ => Bool) true (fun id ops d => Option.rec (motive := fun _ => Bool) (noD (path 0) (cR P nt d ops)) (fun _ => true) (sp id)) (fun _ _ a b => a && b) (fun _ _ _ a b => a && b) (fun _ _ a => a) (fun _ a => a) (fun _ _ _ _ _ _ => true) (fun _ => true) (fun _ _ => true) (fun _ => true) (fun _ => true) true (fun _ => true) x
/-- Of all regions of some code. -/
def allR (p : Nat → Array Oper → Bool → Prop) (x : Code) : Prop :=
  Code.rec (motive := fun _ => Prop) True (fun id ops d => p id ops d) (fun _ _ a b => a ∧ b) (fun _ _ _ a b => a ∧ b) (fun _ _ a => a) (fun _ a => a) (fun _ _ _ _ _ _ => True) (fun _ => True) (fun _ _ => True) (fun _ => True) (fun _ => True) True (fun _ => True) x
theorem allR_seq {p : Nat → Array Oper → Bool → Prop} (a b : Code) : allR p (.seq a b) = (allR p a ∧ allR p b) := rfl
theorem allR_cond {p : Nat → Array Oper → Bool → Prop} (x : Operand) (a b : Code) : allR p (.cond x a b) = (allR p a ∧ allR p b) := rfl
theorem allR_block {p : Nat → Array Oper → Bool → Prop} (i : Nat) (a : Code) : allR p (.block i a) = allR p a := rfl
theorem allR_loop {p : Nat → Array Oper → Bool → Prop} (a : Code) : allR p (.loop a) = allR p a := rfl
theorem allR_region {p : Nat → Array Oper → Bool → Prop} (i : Nat) (o : Array Oper) (d : Bool) : allR p (.region i o d) = p i o d := rfl
theorem allR_skip {p : Nat → Array Oper → Bool → Prop} : allR p .skip = True := rfl
theorem allR_ret {p : Nat → Array Oper → Bool → Prop} : allR p .ret = True := rfl
theorem allR_exit {p : Nat → Array Oper → Bool → Prop} (i : Nat) : allR p (.exit i) = True := rfl
def KOut (Inv : S → Ren → T AV → Hp → World → Prop) (K : S → Rc → Bool) (ρ : Ren) (h : Hp) (a : Act) (w : World) : Exit → Act → World → Prop
  | .normal, a', w' => ∃ s α' h' nx' ρ', K s (.nx α' h' nx') = true ∧ Inv s ρ' α' h' w' ∧ Good ρ h a w ρ' α' h' nx' a' w'
  | .exit id, a', w' => ∃ s α' h' nx' ρ', K s (.ex id α' h' nx') = true ∧ Inv s ρ' α' h' w' ∧ Good ρ h a w ρ' α' h' nx' a' w'
  | .ret, a', w' => ∃ s α' h' nx' ρ', K s (.rt α' h' nx') = true ∧ Inv s ρ' α' h' w' ∧ Good ρ h a w ρ' α' h' nx' a' w'
  | _, _, _ => False
/-- A special region: what it leaves is among what it may leave. -/
def SpOk (P : Program) (Inv : S → Ren → T AV → Hp → World → Prop) (nt : Nat) (F : SpF S) (id : Nat) (ops : Array Oper) (draw : Bool) : Prop :=
  ∀ {s : S} {ρ : Ren} {α : T AV} {a : Act} {w : World} {h : Hp} {nx : Pa} (k : S → T AV → Hp → Pa → Bool), HR ρ h nx w → TR ρ α a.tmps → nt ≤ a.tmps.size → Inv s ρ α h w → F s α h nx k = true →
    Code.wp P (.region id ops draw) (fun e a' w' => e = .normal ∧ ∃ s' α' h' nx' ρ', k s' α' h' nx' = true ∧ Inv s' ρ' α' h' w' ∧ Good ρ h a w ρ' α' h' nx' a' w') a w
variable {sp : Nat → Option (SpF S)} {Inv : S → Ren → T AV → Hp → World → Prop}
theorem KOut.shift {K : S → Rc → Bool} {ρ ρ1 : Ren} {h h1 : Hp} {a a1 : Act} {w w1 : World} {α1 : T AV} {n1 : Pa} (g : Good ρ h a w ρ1 α1 h1 n1 a1 w1) : ∀ e a' w', KOut Inv K ρ1 h1 a1 w1 e a' w' → KOut Inv K ρ h a w e a' w' := fun e a' w' ho => by
  cases e with
  | normal => obtain ⟨s, α', h', nx', ρ', h1, h2, h3⟩ := ho; exact ⟨s, α', h', nx', ρ', h1, h2, g.trans h3⟩
  | exit id => obtain ⟨s, α', h', nx', ρ', h1, h2, h3⟩ := ho; exact ⟨s, α', h', nx', ρ', h1, h2, g.trans h3⟩
  | ret => obtain ⟨s, α', h', nx', ρ', h1, h2, h3⟩ := ho; exact ⟨s, α', h', nx', ρ', h1, h2, g.trans h3⟩
  | goto l => exact ho.elim
  | panic ch => exact ho.elim
  | outgrown => exact ho.elim
abbrev Kok (P : Program) (Inv : S → Ren → T AV → Hp → World → Prop) (nt : Nat) (x : Code) (f : S → T AV → Hp → Pa → (S → Rc → Bool) → Bool) : Prop :=
  ∀ {s : S} {ρ : Ren} {α : T AV} {a : Act} {w : World} {h : Hp} {nx : Pa} (K : S → Rc → Bool), HR ρ h nx w → TR ρ α a.tmps → nt ≤ a.tmps.size → Inv s ρ α h w → f s α h nx K = true → x.wp P (KOut Inv K ρ h a w) a w
/-- A run that goes on behind what was reckoned. -/
theorem kthen {K K' : S → Rc → Bool} {N : Act → World → Prop} {ρ : Ren} {h : Hp} {a : Act} {w : World} (hn : ∀ s α' h' nx' ρ' a' w', K' s (.nx α' h' nx') = true → Inv s ρ' α' h' w' → Good ρ h a w ρ' α' h' nx' a' w' → N a' w') (he : ∀ s id α' h' nx', K' s (.ex id α' h' nx') = true → K s (.ex id α' h' nx') = true) (hr : ∀ s α' h' nx', K' s (.rt α' h' nx') = true → K s (.rt α' h' nx') = true) :
    ∀ e a' w', KOut Inv K' ρ h a w e a' w' → Exit.then N (KOut Inv K ρ h a w) e a' w' := fun e a' w' ho => by
  cases e with
  | normal => obtain ⟨s, α', h', nx', ρ', h1, h2, h3⟩ := ho; exact hn _ _ _ _ _ _ _ h1 h2 h3
  | exit id => obtain ⟨s, α', h', nx', ρ', h1, h2, h3⟩ := ho; exact ⟨s, α', h', nx', ρ', he _ _ _ _ _ h1, h2, h3⟩
  | ret => obtain ⟨s, α', h', nx', ρ', h1, h2, h3⟩ := ho; exact ⟨s, α', h', nx', ρ', hr _ _ _ _ h1, h2, h3⟩
  | goto l => exact ho.elim
  | panic ch => exact ho.elim
  | outgrown => exact ho.elim
theorem kloop_ok {x : Code} {f : S → T AV → Hp → Pa → (S → Rc → Bool) → Bool} (ih : Kok P Inv nt x f) (K : S → Rc → Bool) :
    ∀ (n : Nat) {s : S} {ρ : Ren} {α : T AV} {a : Act} {w : World} {h : Hp} {nx : Pa}, HR ρ h nx w → TR ρ α a.tmps → nt ≤ a.tmps.size → Inv s ρ α h w → kLoop f K n s α h nx = true → Code.rounds P x (KOut Inv K ρ h a w) n a w := by
  intro n
  induction n with
  | zero => intro s ρ α a w h nx H hT hnt hv hb; cases hb
  | succ n ihn =>
    intro s ρ α a w h nx H hT hnt hv hb
    have hb : f s α h nx (fun s r => Rc.rec (motive := fun _ => Bool) (fun _ => false) (fun tm h nx => kLoop f K n s tm h nx) (fun id tm h nx => K s (.ex id tm h nx)) (fun tm h nx => K s (.rt tm h nx)) r) = true := hb
    rw [rounds_succ]
    refine wp_mono (ih _ H hT hnt hv hb) (kthen (fun s α' h' nx' ρ' a' w' q hv' g => ?_) (fun s id α' h' nx' q => q) (fun s α' h' nx' q => q))
    exact rounds_mono (KOut.shift g) n a' w' (ihn g.hr g.tr (by rw [g.sz]; exact hnt) hv' q)
theorem evK_ok (hm : P.follows .mixedOrders = true) (hC : CallOk P c) (hI : ∀ {s ρ α h a w ρ' α' h' nx' a' w'}, Inv s ρ α h w → getP (path 0) α' = getP (path 0) α → Good ρ h a w ρ' α' h' nx' a' w' → Inv s ρ' α' h' w') :
    ∀ (k : Code), keeps0 (P := P) (nt := nt) sp k = true → allR (fun id ops d => ∀ F, sp id = some F → SpOk P Inv nt F id ops d) k → Kok P Inv nt k (evK P c nt sp k) := by
  intro k
  induction k with
  | skip => exact fun _ _ {s ρ α a w h nx} K H hT hnt hv hb => wp_skip ⟨s, α, h, nx, ρ, hb, hv, hT, H, Stp.refl _ _ _, rfl, rfl⟩
  | region id ops draw =>
    intro hz hA s ρ α a w h nx K H hT hnt hv hb
    have hA : ∀ F, sp id = some F → SpOk P Inv nt F id ops draw := hA
    have hb : Option.rec (motive := fun _ => Bool) (kReg K s (evC (.reg (cR P nt draw ops)) c α h nx)) (fun F => F s α h nx fun s tm h nx => K s (.nx tm h nx)) (sp id) = true := hb
    cases hs : sp id with
    | none =>
      rw [hs] at hb
      have hz : Option.rec (motive := fun _ => Bool) (noD (path 0) (cR P nt draw ops)) (fun _ => true) (sp id) = true := hz
      rw [hs] at hz
      have hb : kReg K s (evC (cC P nt (.region id ops draw)) c α h nx) = true := hb
      have hE : ∀ n, evC (cC P nt (.region id ops draw)) c α h nx ≠ .bad n := fun n q => by rw [q] at hb; cases hb
      refine wp_mono (code_ok hm hC (.region id ops draw) H hT hnt hE) fun e a' w' ho => ?_
      revert hb
      cases e with
      | normal => obtain ⟨α', h', nx', ρ', h1, g⟩ := ho; have hk := evR_keep hz (show evR c (cR P nt draw ops) α h nx = _ from h1); rw [h1]; exact fun q => ⟨s, α', h', nx', ρ', q, hI hv hk g, g⟩
      | exit id => obtain ⟨α', h', nx', ρ', h1, -⟩ := ho; rw [h1]; intro q; cases q
      | ret => obtain ⟨α', h', nx', ρ', h1, -⟩ := ho; rw [h1]; intro q; cases q
      | goto l => exact ho.elim
      | panic ch => exact ho.elim
      | outgrown => exact ho.elim
    | some F =>
      rw [hs] at hb
      refine wp_mono (hA F hs _ H hT hnt hv hb) fun e a' w' ⟨he, s', α', h', nx', ρ', q, hv', g⟩ => ?_
      subst he
      exact ⟨s', α', h', nx', ρ', q, hv', g⟩
  | seq x y ihx ihy =>
    intro hz hA s ρ α a w h nx K H hT hnt hv hb
    obtain ⟨hz1, hz2⟩ := and_ok (show (keeps0 (P := P) (nt := nt) sp x && keeps0 (P := P) (nt := nt) sp y) = true from hz)
    have hA : allR (fun id ops d => ∀ F, sp id = some F → SpOk P Inv nt F id ops d) x ∧ allR (fun id ops d => ∀ F, sp id = some F → SpOk P Inv nt F id ops d) y := hA
    refine wp_seq (wp_mono (ihx hz1 hA.1 (kSeq (evK P c nt sp y) K) H hT hnt hv hb) (kthen (fun s α' h' nx' ρ' a' w' q hv' g => ?_) (fun s id α' h' nx' q => q) (fun s α' h' nx' q => q)))
    exact wp_mono (ihy hz2 hA.2 K g.hr g.tr (by rw [g.sz]; exact hnt) hv' q) (KOut.shift g)
  | cond x y z ihy ihz =>
    intro hz hA s ρ α a w h nx K H hT hnt hv hb
    obtain ⟨hz1, hz2⟩ := and_ok (show (keeps0 (P := P) (nt := nt) sp y && keeps0 (P := P) (nt := nt) sp z) = true from hz)
    have hA : allR (fun id ops d => ∀ F, sp id = some F → SpOk P Inv nt F id ops d) y ∧ allR (fun id ops d => ∀ F, sp id = some F → SpOk P Inv nt F id ops d) z := hA
    have hb : kCond (xo x) (evK P c nt sp y) (evK P c nt sp z) s α h nx K = true := hb
    unfold kCond at hb
    cases e1 : eX (xo x) α with
    | none => rw [e1] at hb; cases hb
    | some v =>
      rw [e1] at hb
      have hxv := hT.x x v e1
      simp only at hb
      split at hb
      · rename_i t
        refine wp_cond (t := t) hxv ?_
        cases t with
        | true => exact ihy hz1 hA.1 K H hT hnt hv hb
        | false => exact ihz hz2 hA.2 K H hT hnt hv hb
      · cases hb
  | block id x ih =>
    intro hz hA s ρ α a w h nx K H hT hnt hv hb
    refine wp_block (wp_mono (ih hz hA (kBlk id K) H hT hnt hv hb) fun ex a' w' ho => ?_)
    cases ex with
    | normal => obtain ⟨s, α', h', nx', ρ', h1, h2, h3⟩ := ho; exact ⟨s, α', h', nx', ρ', h1, h2, h3⟩
    | exit j =>
      obtain ⟨s, α', h', nx', ρ', hK, h2, h3⟩ := ho
      have hK : (bif Nat.beq j id then K s (.nx α' h' nx') else K s (.ex j α' h' nx')) = true := hK
      show if j = id then _ else _
      by_cases hj : j = id
      · subst hj
        rw [if_pos rfl]
        rw [Nat.beq_refl, cond_true] at hK
        exact ⟨s, α', h', nx', ρ', hK, h2, h3⟩
      · rw [if_neg hj]
        have : Nat.beq j id = false := by cases q : Nat.beq j id with | false => rfl | true => exact absurd (Nat.eq_of_beq_eq_true q) hj
        rw [this, cond_false] at hK
        exact ⟨s, α', h', nx', ρ', hK, h2, h3⟩
    | ret => obtain ⟨s, α', h', nx', ρ', h1, h2, h3⟩ := ho; exact ⟨s, α', h', nx', ρ', h1, h2, h3⟩
    | goto l => exact ho.elim
    | panic ch => exact ho.elim
    | outgrown => exact ho.elim
  | loop x ih =>
    intro hz hA s ρ α a w h nx K H hT hnt hv hb
    have hb : kLoop (evK P c nt sp x) K 100000 s α h nx = true := hb
    exact wp_loop_rounds 100000 (kloop_ok (ih hz hA) K 100000 H hT hnt hv hb)
  | exit id => exact fun _ _ {s ρ α a w h nx} K H hT hnt hv hb => wp_exit ⟨s, α, h, nx, ρ, hb, hv, hT, H, Stp.refl _ _ _, rfl, rfl⟩
  | ret => exact fun _ _ {s ρ α a w h nx} K H hT hnt hv hb => wp_ret ⟨s, α, h, nx, ρ, hb, hv, hT, H, Stp.refl _ _ _, rfl, rfl⟩
  | _ => exact fun _ _ {s ρ α a w h nx} K H hT hnt hv hb => (by cases hb)
end
end Go.Ev.Ch
