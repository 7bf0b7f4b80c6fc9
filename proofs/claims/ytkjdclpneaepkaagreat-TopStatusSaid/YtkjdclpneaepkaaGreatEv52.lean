/- Code reckoned with choices: at some regions more than one thing may come about. -/
import Derived.Test.YtkjdclpneaepkaaGreatEvP3
open Go
namespace Go.Ev
section
variable (P : Program) (c : CallF) (nt : Nat)
/-- What a special region may leave: all of it must do. -/
abbrev SpF := T AV → Hp → Pa → (T AV → Hp → Pa → Bool) → Bool
noncomputable def kReg (k : Rc → Bool) (r : Rc) : Bool := Rc.rec (motive := fun _ => Bool) (fun _ => false) (fun tm h nx => k (.nx tm h nx)) (fun _ _ _ _ => false) (fun _ _ _ => false) r
noncomputable def kSeq (ib : T AV → Hp → Pa → (Rc → Bool) → Bool) (k : Rc → Bool) (r : Rc) : Bool := Rc.rec (motive := fun _ => Bool) (fun _ => false) (fun tm h nx => ib tm h nx k) (fun id tm h nx => k (.ex id tm h nx)) (fun tm h nx => k (.rt tm h nx)) r
noncomputable def kBlk (id : Nat) (k : Rc → Bool) (r : Rc) : Bool := Rc.rec (motive := fun _ => Bool) (fun _ => false) (fun tm h nx => k (.nx tm h nx)) (fun j tm h nx => bif Nat.beq j id then k (.nx tm h nx) else k (.ex j tm h nx)) (fun tm h nx => k (.rt tm h nx)) r
noncomputable def kLoop (ia : T AV → Hp → Pa → (Rc → Bool) → Bool) (k : Rc → Bool) (n : Nat) : T AV → Hp → Pa → Bool := Nat.rec (motive := fun _ => T AV → Hp → Pa → Bool) (fun _ _ _ => false)
  (fun _ ih tm h nx => ia tm h nx fun r => Rc.rec (motive := fun _ => Bool) (fun _ => false) (fun tm h nx => ih tm h nx) (fun id tm h nx => k (.ex id tm h nx)) (fun tm h nx => k (.rt tm h nx)) r) n
noncomputable def kCond (x : XO) (ia ib : T AV → Hp → Pa → (Rc → Bool) → Bool) (tm : T AV) (h : Hp) (nx : Pa) (k : Rc → Bool) : Bool := Option.rec (motive := fun _ => Bool) false (fun v => match v with | .b t => Bool.rec (motive := fun _ => Bool) (ib tm h nx k) (ia tm h nx k) t | _ => false) (eX x tm)
noncomputable def evK (sp : Nat → Option SpF) (x : Code) : T AV → Hp → Pa → (Rc → Bool) → Bool :=
  Code.rec (motive := fun _ => T AV → Hp → Pa → (Rc → Bool) → Bool) (fun tm h nx k => k (.nx tm h nx))
    (fun id ops draw tm h nx k => Option.rec (motive := fun _ => Bool) (kReg k (evC (.reg (cR P nt draw ops)) c tm h nx)) (fun F => F tm h nx fun tm h nx => k (.nx tm h nx)) (sp id))
    (fun _ _ ia ib tm h nx k => ia tm h nx (kSeq ib k))
    (fun x _ _ ia ib => kCond (xo x) ia ib)
    (fun id _ ia tm h nx k => ia tm h nx (kBlk id k))
    (fun _ ia tm h nx k => kLoop ia k 100000 tm h nx)
    (fun _ _ _ _ _ _ _ _ _ _ => false) (fun id tm h nx k => k (.ex id tm h nx)) (fun _ _ _ _ _ _ => false) (fun _ _ _ _ _ => false) (fun _ _ _ _ _ => false) (fun tm h nx k => k (.rt tm h nx)) (fun _ _ _ _ _ => false) x
end
section
variable {P : Program} {c : CallF} {nt : Nat}
/-- Of all regions of some code. -/
def allR (p : Nat → Array Oper → Bool → Prop) (x : Code) : Prop :=
  Code.rec (motive := fun _ => Prop) True (fun id ops d => p id ops d) (fun _ _ a b => a ∧ b) (fun _ _ _ a b => a ∧ b) (fun _ _ a => a) (fun _ a => a) (fun _ _ _ _ _ _ => True) (fun _ => True) (fun _ _ => True) (fun _ => True) (fun _ => True) True (fun _ => True) x
def KOut (K : Rc → Bool) (ρ : Ren) (h : Hp) (a : Act) (w : World) : Exit → Act → World → Prop := fun e a' w' => ∃ r, K r = true ∧ Out r ρ h a w e a' w'
/-- A special region: what it leaves is among what it may leave. -/
def SpOk (P : Program) (Inv : Ren → Hp → World → Prop) (nt : Nat) (F : SpF) (id : Nat) (ops : Array Oper) (draw : Bool) : Prop :=
  ∀ {ρ : Ren} {α : T AV} {a : Act} {w : World} {h : Hp} {nx : Pa} (k : T AV → Hp → Pa → Bool), HR ρ h nx w → TR ρ α a.tmps → nt ≤ a.tmps.size → Inv ρ h w → F α h nx k = true →
    Code.wp P (.region id ops draw) (fun e a' w' => e = .normal ∧ ∃ α' h' nx' ρ', k α' h' nx' = true ∧ Good ρ h a w ρ' α' h' nx' a' w') a w
theorem KOut.shift {K : Rc → Bool} {ρ ρ1 : Ren} {h h1 : Hp} {a a1 : Act} {w w1 : World} {α1 : T AV} {n1 : Pa} (g : Good ρ h a w ρ1 α1 h1 n1 a1 w1) : ∀ e a' w', KOut K ρ1 h1 a1 w1 e a' w' → KOut K ρ h a w e a' w' := fun e a' w' ⟨r, h2, h3⟩ => ⟨r, h2, Out.shift g e a' w' h3⟩
variable {sp : Nat → Option SpF} {Inv : Ren → Hp → World → Prop}
abbrev Kok (P : Program) (Inv : Ren → Hp → World → Prop) (nt : Nat) (x : Code) (f : T AV → Hp → Pa → (Rc → Bool) → Bool) : Prop :=
  ∀ {ρ : Ren} {α : T AV} {a : Act} {w : World} {h : Hp} {nx : Pa} (K : Rc → Bool), HR ρ h nx w → TR ρ α a.tmps → nt ≤ a.tmps.size → Inv ρ h w → f α h nx K = true → x.wp P (KOut K ρ h a w) a w
/-- A run that goes on behind what was reckoned. -/
theorem kthen {K K' : Rc → Bool} {N : Act → World → Prop} {ρ : Ren} {h : Hp} {a : Act} {w : World} (hn : ∀ α' h' nx' ρ' a' w', K' (.nx α' h' nx') = true → Good ρ h a w ρ' α' h' nx' a' w' → N a' w') (he : ∀ id α' h' nx', K' (.ex id α' h' nx') = true → K (.ex id α' h' nx') = true) (hr : ∀ α' h' nx', K' (.rt α' h' nx') = true → K (.rt α' h' nx') = true) :
    ∀ e a' w', KOut K' ρ h a w e a' w' → Exit.then N (KOut K ρ h a w) e a' w' := fun e a' w' ⟨r, hK, ho⟩ => by
  cases e with
  | normal => obtain ⟨α', h', nx', ρ', h1, h2⟩ := ho; subst h1; exact hn _ _ _ _ _ _ hK h2
  | exit id => obtain ⟨α', h', nx', ρ', h1, h2⟩ := ho; subst h1; exact ⟨_, he _ _ _ _ hK, α', h', nx', ρ', rfl, h2⟩
  | ret => obtain ⟨α', h', nx', ρ', h1, h2⟩ := ho; subst h1; exact ⟨_, hr _ _ _ hK, α', h', nx', ρ', rfl, h2⟩
  | goto l => exact ho.elim
  | panic ch => exact ho.elim
  | outgrown => exact ho.elim
theorem kloop_ok (hI : ∀ {ρ h a w ρ' α' h' nx' a' w'}, Inv ρ h w → Good ρ h a w ρ' α' h' nx' a' w' → Inv ρ' h' w') {x : Code} {f : T AV → Hp → Pa → (Rc → Bool) → Bool} (ih : Kok P Inv nt x f) (K : Rc → Bool) :
    ∀ (n : Nat) {ρ : Ren} {α : T AV} {a : Act} {w : World} {h : Hp} {nx : Pa}, HR ρ h nx w → TR ρ α a.tmps → nt ≤ a.tmps.size → Inv ρ h w → kLoop f K n α h nx = true → Code.rounds P x (KOut K ρ h a w) n a w := by
  intro n
  induction n with
  | zero => intro ρ α a w h nx H hT hnt hv hb; cases hb
  | succ n ihn =>
    intro ρ α a w h nx H hT hnt hv hb
    have hb : f α h nx (fun r => Rc.rec (motive := fun _ => Bool) (fun _ => false) (fun tm h nx => kLoop f K n tm h nx) (fun id tm h nx => K (.ex id tm h nx)) (fun tm h nx => K (.rt tm h nx)) r) = true := hb
    rw [rounds_succ]
    refine wp_mono (ih _ H hT hnt hv hb) (kthen (fun α' h' nx' ρ' a' w' q g => ?_) (fun id α' h' nx' q => q) (fun α' h' nx' q => q))
    exact rounds_mono (KOut.shift g) n a' w' (ihn g.hr g.tr (by rw [g.sz]; exact hnt) (hI hv g) q)
theorem evK_ok (hm : P.follows .mixedOrders = true) (hC : CallOk P c) (hI : ∀ {ρ h a w ρ' α' h' nx' a' w'}, Inv ρ h w → Good ρ h a w ρ' α' h' nx' a' w' → Inv ρ' h' w') :
    ∀ (k : Code), allR (fun id ops d => ∀ F, sp id = some F → SpOk P Inv nt F id ops d) k → Kok P Inv nt k (evK P c nt sp k) := by
  intro k
  induction k with
  | skip => exact fun _ {ρ α a w h nx} K H hT hnt hv hb => wp_skip ⟨.nx α h nx, hb, α, h, nx, ρ, rfl, hT, H, Stp.refl _ _ _, rfl, rfl⟩
  | region id ops draw =>
    intro hA ρ α a w h nx K H hT hnt hv hb
    have hA : ∀ F, sp id = some F → SpOk P Inv nt F id ops draw := hA
    have hb : Option.rec (motive := fun _ => Bool) (kReg K (evC (.reg (cR P nt draw ops)) c α h nx)) (fun F => F α h nx fun tm h nx => K (.nx tm h nx)) (sp id) = true := hb
    cases hs : sp id with
    | none =>
      rw [hs] at hb
      have hb : kReg K (evC (cC P nt (.region id ops draw)) c α h nx) = true := hb
      have hE : ∀ n, evC (cC P nt (.region id ops draw)) c α h nx ≠ .bad n := fun n q => by rw [q] at hb; cases hb
      refine wp_mono (code_ok hm hC (.region id ops draw) H hT hnt hE) fun e a' w' ho => ⟨_, ?_, ho⟩
      revert hb
      cases e with
      | normal => obtain ⟨α', h', nx', ρ', h1, -⟩ := ho; rw [h1]; exact fun q => q
      | exit id => obtain ⟨α', h', nx', ρ', h1, -⟩ := ho; rw [h1]; intro q; cases q
      | ret => obtain ⟨α', h', nx', ρ', h1, -⟩ := ho; rw [h1]; intro q; cases q
      | goto l => exact ho.elim
      | panic ch => exact ho.elim
      | outgrown => exact ho.elim
    | some F =>
      rw [hs] at hb
      refine wp_mono (hA F hs _ H hT hnt hv hb) fun e a' w' ⟨he, α', h', nx', ρ', q, g⟩ => ?_
      subst he
      exact ⟨_, q, α', h', nx', ρ', rfl, g⟩
  | seq x y ihx ihy =>
    intro hA ρ α a w h nx K H hT hnt hv hb
    have hA : allR (fun id ops d => ∀ F, sp id = some F → SpOk P Inv nt F id ops d) x ∧ allR (fun id ops d => ∀ F, sp id = some F → SpOk P Inv nt F id ops d) y := hA
    refine wp_seq (wp_mono (ihx hA.1 (kSeq (evK P c nt sp y) K) H hT hnt hv hb) (kthen (fun α' h' nx' ρ' a' w' q g => ?_) (fun id α' h' nx' q => q) (fun α' h' nx' q => q)))
    exact wp_mono (ihy hA.2 K g.hr g.tr (by rw [g.sz]; exact hnt) (hI hv g) q) (KOut.shift g)
  | cond x y z ihy ihz =>
    intro hA ρ α a w h nx K H hT hnt hv hb
    have hA : allR (fun id ops d => ∀ F, sp id = some F → SpOk P Inv nt F id ops d) y ∧ allR (fun id ops d => ∀ F, sp id = some F → SpOk P Inv nt F id ops d) z := hA
    have hb : kCond (xo x) (evK P c nt sp y) (evK P c nt sp z) α h nx K = true := hb
    unfold kCond at hb
    cases e1 : eX (xo x) α with
    | none => rw [e1] at hb; cases hb
    | some v =>
      rw [e1] at hb
      have hxv := hT.x x v e1
      simp only at hb
      split at hb
      · rename_i t
        refine wp_cond (t := t) hxv ?_
        cases t with
        | true => exact ihy hA.1 K H hT hnt hv hb
        | false => exact ihz hA.2 K H hT hnt hv hb
      · cases hb
  | block id x ih =>
    intro hA ρ α a w h nx K H hT hnt hv hb
    refine wp_block (wp_mono (ih hA (kBlk id K) H hT hnt hv hb) fun ex a' w' ⟨r, hK, ho⟩ => ?_)
    cases ex with
    | normal => obtain ⟨α', h', nx', ρ', h1, h2⟩ := ho; subst h1; exact ⟨_, hK, α', h', nx', ρ', rfl, h2⟩
    | exit j =>
      obtain ⟨α', h', nx', ρ', h1, h2⟩ := ho
      subst h1
      have hK : (bif Nat.beq j id then K (.nx α' h' nx') else K (.ex j α' h' nx')) = true := hK
      show if j = id then _ else _
      by_cases hj : j = id
      · subst hj
        rw [if_pos rfl]
        rw [Nat.beq_refl, cond_true] at hK
        exact ⟨_, hK, α', h', nx', ρ', rfl, h2⟩
      · rw [if_neg hj]
        have : Nat.beq j id = false := by cases q : Nat.beq j id with | false => rfl | true => exact absurd (Nat.eq_of_beq_eq_true q) hj
        rw [this, cond_false] at hK
        exact ⟨_, hK, α', h', nx', ρ', rfl, h2⟩
    | ret => obtain ⟨α', h', nx', ρ', h1, h2⟩ := ho; subst h1; exact ⟨_, hK, α', h', nx', ρ', rfl, h2⟩
    | goto l => exact ho.elim
    | panic ch => exact ho.elim
    | outgrown => exact ho.elim
  | loop x ih =>
    intro hA ρ α a w h nx K H hT hnt hv hb
    have hb : kLoop (evK P c nt sp x) K 100000 α h nx = true := hb
    exact wp_loop_rounds 100000 (kloop_ok hI (ih hA) K 100000 H hT hnt hv hb)
  | exit id => exact fun _ {ρ α a w h nx} K H hT hnt hv hb => wp_exit ⟨.ex id α h nx, hb, α, h, nx, ρ, rfl, hT, H, Stp.refl _ _ _, rfl, rfl⟩
  | ret => exact fun _ {ρ α a w h nx} K H hT hnt hv hb => wp_ret ⟨.rt α h nx, hb, α, h, nx, ρ, rfl, hT, H, Stp.refl _ _ _, rfl, rfl⟩
  | _ => exact fun _ {ρ α a w h nx} K H hT hnt hv hb => (by cases hb)
end
end Go.Ev
