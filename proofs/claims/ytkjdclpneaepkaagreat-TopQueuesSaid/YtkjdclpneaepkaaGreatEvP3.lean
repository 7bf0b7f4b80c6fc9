/- A step, and steps one behind the other. Regions that draw their order (1): what the schedule is made of. Regions that draw their order (2): operations that may be taken first, and those that float. Regions that draw their order (3): the schedule, step by step. Regions that draw their order (4): what is still to come. Regions that draw their order (5): what holds between the schedule and what has come up. Regions that draw their order (6): the schedule goes on where nothing comes up. Regions that draw their order (7): something comes up. Regions that draw their order (8): in every order. Code, functions, calls. Functions, and what they call. Hooks, one at a time. Hooks: the hatch's two lanes. Hooks: the sorted keys of a map. -/
import Derived.Test.YtkjdclpneaepkaaGreatEvP2
import Derived.LoopN
import Derived.Laws.Sem
import Derived.Test.YtkjdclpneaepkaaGreatEvP1
import Derived.Conc.LoneSelect
import Derived.IntWalk
import Derived.MapKept
import Derived.Laws.AppendOwn
set_option linter.unusedVariables false
section
open Go
namespace Go.Ev
section
variable {P : Program}
/-- What stands in the places of a function. -/
def TR (ρ : Ren) (α : T AV) (tmps : Array Value) : Prop := ∀ t v, getP (path t) α = some v → V ρ v (tmps.getD t undef)
/-- The places that an operation looks at. -/
def LR (ρ : Ren) (α : T AV) (tmps : Array Value) (ops : Array Oper) (o : Oper) : Prop := ∀ t ∈ o.looksAt ops, ∀ v, getP (path t) α = some v → V ρ v (tmps.getD t undef)
theorem TR.mono {ρ ρ' : Ren} (h : Ext ρ ρ') {α : T AV} {tmps : Array Value} (k : TR ρ α tmps) : TR ρ' α tmps := fun t v e => V_mono h (k t v e)
theorem TR.lr {ρ : Ren} {α : T AV} {tmps : Array Value} (k : TR ρ α tmps) (ops : Array Oper) (o : Oper) : LR ρ α tmps ops o := fun t _ v e => k t v e
theorem LR.xr {ρ : Ren} {α : T AV} {a : Act} {ops : Array Oper} {o : Oper} (k : LR ρ α a.tmps ops o) : XR ρ α a o.op.operands.toList := fun x hx v e => by
  cases x with
  | tmp t => exact k t (by unfold Oper.looksAt; exact List.mem_append_left _ (List.mem_filterMap.2 ⟨.tmp t, hx, rfl⟩)) v e
  | const u =>
    have e : eX (match ofV u with | some v => XO.k v | none => XO.no) α = some v := e
    cases e1 : ofV u with
    | none => rw [e1] at e; cases e
    | some y => rw [e1] at e; cases e; exact ofV_V ρ e1
  | func f => cases e; exact ⟨[], [], rfl, rfl, rfl⟩
  | global g => cases e
theorem undef_V (ρ : Ren) : V ρ (.tp .nl) undef := ⟨[], rfl, rfl⟩
theorem getD_set (tmps : Array Value) (d t : Nat) (v : Value) : (tmps.setIfInBounds d v).getD t undef = if t = d ∧ d < tmps.size then v else tmps.getD t undef := by
  simp only [Array.getD_eq_getD_getElem?]
  by_cases h : t = d
  · subst h
    by_cases h2 : t < tmps.size
    · simp [h2]
    · simp [h2]
  · rw [Array.getElem?_setIfInBounds_ne (Ne.symm h)]
    simp [h]
theorem put_tmps (a : Act) (d : Nat) (v : Value) : (a.put (some d) v).tmps = a.tmps.setIfInBounds d v := rfl
theorem put_size (a : Act) (d : Option Nat) (v : Value) : (a.put d v).tmps.size = a.tmps.size := by cases d <;> simp [Act.put]
theorem put_defers (a : Act) (d : Option Nat) (v : Value) : (a.put d v).defers = a.defers := by cases d <;> rfl
/-- The value stands where it was to be put. -/
theorem put_at {ρ : Ren} {av : AV} {a : Act} {d : Nat} {v : Value} (hv : V ρ av v) (h : d < a.tmps.size ∨ av = .tp .nl ∧ v = undef) : V ρ av ((a.put (some d) v).tmps.getD d undef) := by
  rw [put_tmps, getD_set]
  by_cases hd : d < a.tmps.size
  · rw [if_pos ⟨rfl, hd⟩]; exact hv
  · rw [if_neg (fun q => hd q.2)]
    obtain ⟨rfl, rfl⟩ := h.resolve_left hd
    have : a.tmps.getD d undef = undef := by simp [Array.getD_eq_getD_getElem?, hd]
    rw [this]; exact undef_V ρ
theorem put_other (a : Act) {d : Option Nat} {t : Nat} (v : Value) (h : d ≠ some t) : (a.put d v).tmps.getD t undef = a.tmps.getD t undef := by
  cases d with
  | none => rfl
  | some d => rw [put_tmps, getD_set, if_neg (fun q => h (by rw [q.1]))]
theorem TR.put {ρ : Ren} {α : T AV} {a : Act} (k : TR ρ α a.tmps) {d : Option Nat} {av : AV} {v : Value} (h : ∀ t, d = some t → V ρ av ((a.put d v).tmps.getD t undef)) : TR ρ (putD (d.map path) av α) (a.put d v).tmps := fun t u e => by
  cases d with
  | none => exact k t u e
  | some d =>
    have e : getP (path t) (setP (some av) (path d) α) = some u := e
    rcases get_set' (some av) (path t) (path d) α with ⟨h1, h2⟩ | ⟨h1, h2⟩
    · rw [h1] at e; cases e; rw [path_inj h2]; exact h d rfl
    · rw [h1] at e; rw [put_other a v (fun q => h2 (by cases q; rfl))]; exact k t u e
theorem wanted_ok {ρ : Ren} {α : T AV} {a : Act} {ops : Array Oper} {o : Oper} {nt : Nat} (hL : LR ρ α a.tmps ops o) {b : Bool} (e : wantS (cS P nt ops o).g α = some b) (hb : (cS P nt ops o).op ≠ .bad ∨ b = false) : Region.wanted o (yielded ops a.tmps) = b := by
  unfold Region.wanted
  cases hg : o.guard with
  | none =>
    have : (cS P nt ops o).g = none := by unfold cS; rw [hg]
    rw [this] at e; cases e; rfl
  | some gw =>
    obtain ⟨g, w⟩ := gw
    cases hq : (ops[g]?).bind (·.dst) with
    | none =>
      have h1 : cS P nt ops o = ⟨none, o.dst.map path, .bad⟩ := by unfold cS; rw [hg]; simp only [hq]
      rw [h1] at e hb
      cases e
      rcases hb with hb | hb
      · exact absurd rfl hb
      · cases hb
    | some d =>
      have h1 : (cS P nt ops o).g = some (path d, w) := by unfold cS; rw [hg]; simp only [hq]
      rw [h1] at e
      have e : (Option.casesOn (getP (path d) α) none fun v => match v with | .b x => some (bif x then w else !w) | .tp _ => some false | _ => none : Option Bool) = some b := e
      cases e1 : getP (path d) α with
      | none => rw [e1] at e; cases e
      | some v =>
        rw [e1] at e
        have hv := hL d (by unfold Oper.looksAt; rw [hg]; simp only [hq]; simp) v e1
        simp only at e
        have hy : yielded ops a.tmps g = (match a.tmps[d]? with | some (.bool b) => some b | _ => none) := by unfold yielded; rw [hq]; rfl
        show (yielded ops a.tmps g == some w) = b
        rw [hy]
        split at e
        · rename_i x
          cases e
          have hv : a.tmps.getD d undef = .bool x := hv
          have : a.tmps[d]? = some (.bool x) := by
            rw [Array.getD_eq_getD_getElem?] at hv
            cases hh : a.tmps[d]? with
            | none => rw [hh] at hv; cases hv
            | some y => rw [hh] at hv; exact congrArg some hv
          rw [this]
          cases x <;> cases w <;> rfl
        · cases e
          obtain ⟨vs, _, hv⟩ := hv
          have : (match a.tmps[d]? with | some (.bool b) => some b | _ => none) = (none : Option Bool) := by
            rw [Array.getD_eq_getD_getElem?] at hv
            cases hh : a.tmps[d]? with
            | none => rfl
            | some y => rw [hh] at hv; have hv : y = _ := hv; rw [hv]
          rw [this]; cases w <;> rfl
        · cases e
theorem bif_some {w : Bool} {x y : Rv} {av : AV} {h' : Hp} {nx' : Pa} (e : (bif w then x else y) = .ok av h' nx') : (w = true ∧ x = .ok av h' nx') ∨ (w = false ∧ y = .ok av h' nx') := by cases w <;> first | exact .inl ⟨rfl, e⟩ | exact .inr ⟨rfl, e⟩
theorem addF_eq (x y : Int) : addF x y = Int.add x y := by
  cases x with
  | ofNat m => cases y <;> rfl
  | negSucc m => rfl
theorem subF_eq (x y : Int) : subF x y = Int.sub x y := by
  cases x with
  | ofNat m =>
    cases y with
    | ofNat n =>
      show (Bool.rec (motive := fun _ => Int) (Int.sub (.ofNat m) (.ofNat n)) (.ofNat (Nat.sub m n)) (Nat.ble n m) : Int) = _
      cases h : Nat.ble n m with
      | false => rfl
      | true => exact Int.ofNat_sub (Nat.le_of_ble_eq_true h)
    | negSucc n => rfl
  | negSucc m => rfl
theorem kI_eq (op : BinOp) : ∃ f, kI op = .mk f ∧ ∀ k x y, f k x y = bI op k x y := by
  cases op <;> first
    | exact ⟨_, rfl, fun _ _ _ => rfl⟩
    | exact ⟨_, rfl, fun k x y => by simp only [addF_eq, subF_eq]; rfl⟩
theorem oBinK_eq {op : BinOp} {f : IntKind → Int → Int → Option AV} (hf : ∀ k x y, f k x y = bI op k x y) (h1 : op ≠ .shl) (h2 : op ≠ .shr) (v u : AV) (h : Hp) (nx : Pa) : oBinK op f v u h nx = oBin op v u h nx := by
  cases v <;> first
    | rfl
    | (cases u <;> first
        | rfl
        | (rename_i k m k' n
           show (Bool.rec (motive := fun _ => Rv) (.bad 15) (okO (f k m n) h nx) (eqK k k') : Rv) = _
           rw [hf]
           unfold oBin bin2
           cases op <;> first
             | exact absurd rfl h1
             | exact absurd rfl h2
             | (simp only; cases eqK k k' <;> rfl)))
theorem binB_eq (op : BinOp) (x y : XO) : binB op x y = .mk (on2 x y (oBin op)) := by
  obtain ⟨f, h1, h2⟩ := kI_eq op
  have key : op ≠ .shl → op ≠ .shr → (Bb.rec (motive := fun _ => Bx) (fun f => .mk (on2 x y (oBinK op f))) (kI op) : Bx) = .mk (on2 x y (oBin op)) := fun q1 q2 => by
    rw [h1]
    show Bx.mk (on2 x y (oBinK op f)) = _
    rw [show oBinK op f = oBin op from funext fun v => funext fun u => funext fun h => funext fun nx => oBinK_eq h2 q1 q2 v u h nx]
  cases op <;> first
    | rfl
    | exact key (by intro q; cases q) (by intro q; cases q)
theorem evB_eq (c : CallF) (o : IOp) : evB c o = .mk (evI c o) := by
  cases o <;> first
    | rfl
    | exact binB_eq _ _ _
theorem evS_def (c : CallF) (s : IS) (tm : T AV) (h : Hp) (nx : Pa) : evS c s tm h nx = (Option.casesOn (wantS s.g tm) (.bad 64) fun w => bif w then evI c s.op tm h nx else .ok (.tp .nl) h nx : Rv) := by
  unfold evS; rw [evB_eq]
  cases wantS s.g tm with
  | none => rfl
  | some w => cases w <;> rfl
/-- What a step is, where it has a value. -/
theorem evS_is {c : CallF} {nt : Nat} {ops : Array Oper} {o : Oper} {ρ : Ren} {α : T AV} {a : Act} {h h' : Hp} {nx nx' : Pa} {av : AV} (hL : LR ρ α a.tmps ops o) (e : evS c (cS P nt ops o) α h nx = .ok av h' nx') :
    (Region.wanted o (yielded ops a.tmps) = true ∧ evI c (cO P o) α h nx = .ok av h' nx' ∧ ∀ d, o.dst = some d → d < nt) ∨ (Region.wanted o (yielded ops a.tmps) = false ∧ av = .tp .nl ∧ h' = h ∧ nx' = nx) := by
  rw [evS_def] at e
  cases e1 : wantS (cS P nt ops o).g α with
  | none => rw [e1] at e; cases e
  | some b =>
    rw [e1] at e
    rcases bif_some e with ⟨rfl, e⟩ | ⟨rfl, e⟩
    · have hnb : (cS P nt ops o).op ≠ .bad := fun q => by rw [q] at e; cases e
      refine .inl ⟨wanted_ok hL e1 (.inl hnb), ?_⟩
      have hop : (cS P nt ops o).op = cDst P nt o := by
        unfold cS at hnb ⊢
        cases hg : o.guard with
        | none => rfl
        | some gw =>
          simp only [hg] at hnb ⊢
          cases hq : (ops[gw.1]?).bind (·.dst) with
          | none => simp only [hq] at hnb; exact absurd rfl hnb
          | some d => rfl
      rw [hop] at e hnb
      unfold cDst at e hnb
      cases hd : o.dst with
      | none => rw [hd] at e; exact ⟨e, fun d q => by cases q⟩
      | some d =>
        rw [hd] at e hnb
        simp only at e hnb
        cases hb : Nat.blt d nt with
        | false => rw [hb] at hnb; exact absurd rfl hnb
        | true => rw [hb] at e; exact ⟨e, fun d' q => by cases q; simpa using hb⟩
    · obtain ⟨rfl, rfl, rfl⟩ := ok3 e
      exact .inr ⟨wanted_ok hL e1 (.inr rfl), rfl, rfl, rfl⟩
/-- A step comes about. -/
theorem step_ok {c : CallF} (hC : CallOk P c) {nt : Nat} {ops : Array Oper} {o : Oper} {ρ : Ren} {α : T AV} {a : Act} {w : World} {h h' : Hp} {nx nx' : Pa} {av : AV} (H : HR ρ h nx w) (hL : LR ρ α a.tmps ops o) (hnt : nt ≤ a.tmps.size) (e : evS c (cS P nt ops o) α h nx = .ok av h' nx')
    (K : Act → World → Prop) (Q : Exit → Act → World → Prop) (hK : ∀ ρ' v w', V ρ' av v → HR ρ' h' nx' w' → Stp ρ h w ρ' h' w' → (∀ d, o.dst = some d → V ρ' av ((a.put o.dst v).tmps.getD d undef)) → K (a.put o.dst v) w') :
    if Region.wanted o (yielded ops a.tmps) then o.wp P a w K Q ∨ (o.asks P a w ∧ LetsOut Q) else K (a.put o.dst undef) w := by
  rcases evS_is hL e with ⟨hw, e1, hd⟩ | ⟨hw, rfl, rfl, rfl⟩
  · rw [if_pos hw]
    refine .inl (cO_w o hC ρ α h nx a w av h' nx' H hL.xr e1 K Q fun ρ' v w' h1 h2 h3 => hK ρ' v w' h1 h2 h3 fun d q => ?_)
    rw [q]; exact put_at h1 (.inl (Nat.lt_of_lt_of_le (hd d q) hnt))
  · rw [hw]
    exact hK ρ undef w (undef_V ρ) H (Stp.refl _ _ _) fun d q => by rw [q]; exact put_at (undef_V ρ) (.inr ⟨rfl, rfl⟩)
theorem cS_dst (nt : Nat) (ops : Array Oper) (o : Oper) : (cS P nt ops o).dst = o.dst.map path := by
  unfold cS
  cases o.guard with
  | none => rfl
  | some gw => simp only; cases (ops[gw.1]?).bind (·.dst) <;> rfl
theorem u8K_eq {X R : Type} (e : E8) (f : X → (X → R) → R) (g : X → X) (hf : ∀ x k, f x k = k (g x)) (n : N8 X) (k : N8 X → R) : u8K e f n k = k (upd8 e (g (sel e n)) n) := by
  cases n; cases e <;> exact hf _ _
theorem setK_eq {α R : Type} (o : Option α) (p : Pa) (t : T α) (k : T α → R) : setK o p t k = k (setP o p t) := by
  have h1 : ∀ (x : E8) (n : N8 (Option α)) (k : N8 (Option α) → R), u8K x (fun _ k => k o) n k = k (up1 o x n) := fun x n k => u8K_eq x (fun _ k => k o) (fun _ => o) (fun _ _ => rfl) n k
  have h2 : ∀ (y x : E8) (n : N8 (N8 (Option α))) (k : N8 (N8 (Option α)) → R), u8K y (u8K x (fun _ k => k o)) n k = k (up2 o y x n) := fun y x n k => u8K_eq y _ (fun n => up1 o x n) (h1 x) n k
  have h3 : ∀ (z y x : E8) (n : N8 (N8 (N8 (Option α)))) (k : N8 (N8 (N8 (Option α))) → R), u8K z (u8K y (u8K x (fun _ k => k o))) n k = k (up3 o z y x n) := fun z y x n k => u8K_eq z _ (fun n => up2 o y x n) (h2 y x) n k
  have h4 : ∀ (u z y x : E8) (n : N8 (N8 (N8 (N8 (Option α))))) (k : N8 (N8 (N8 (N8 (Option α)))) → R), u8K u (u8K z (u8K y (u8K x (fun _ k => k o)))) n k = k (up4 o u z y x n) := fun u z y x n k => u8K_eq u _ (fun n => up3 o z y x n) (h3 z y x) n k
  have h5 : ∀ (v u z y x : E8) (n : N8 (N8 (N8 (N8 (N8 (Option α)))))) (k : N8 (N8 (N8 (N8 (N8 (Option α))))) → R), u8K v (u8K u (u8K z (u8K y (u8K x (fun _ k => k o))))) n k = k (up5 o v u z y x n) := fun v u z y x n k => u8K_eq v _ (fun n => up4 o u z y x n) (h4 u z y x) n k
  obtain ⟨t1, t2, t3, t4, t5, q⟩ := t
  cases p with
  | a x => exact h1 x t1 fun t1 => k ⟨t1, t2, t3, t4, t5, q⟩
  | b y x => exact h2 y x t2 fun t2 => k ⟨t1, t2, t3, t4, t5, q⟩
  | c z y x => exact h3 z y x t3 fun t3 => k ⟨t1, t2, t3, t4, t5, q⟩
  | d u z y x => exact h4 u z y x t4 fun t4 => k ⟨t1, t2, t3, t4, t5, q⟩
  | f v u z y x => exact h5 v u z y x t5 fun t5 => k ⟨t1, t2, t3, t4, t5, q⟩
  | far n => rfl
theorem putK_eq (d : Option Pa) (v : AV) (tm : T AV) (k : T AV → Rc) : putK d v tm k = k (putD d v tm) := by
  cases d with
  | none => rfl
  | some p => exact setK_eq (some v) p tm k
theorem evR_step (c : CallF) (s : IS) (ag : List IS) (r : IR) (α : T AV) (h : Hp) (nx : Pa) : evR c (.cons s ag r) α h nx = (Rv.casesOn (evS c s α h nx) (fun n => Rc.bad n) fun v h nx => List.casesOn ag (evR c r (putD s.dst v α) h nx) fun _ _ => bif again ag (putD s.dst v α) h nx then evR c r (putD s.dst v α) h nx else .bad 66 : Rc) := by
  show (Rv.casesOn (evS c s α h nx) (fun n => Rc.bad n) fun v h nx => putK s.dst v α fun tm => List.casesOn ag (evR c r tm h nx) fun _ _ => bif again ag tm h nx then evR c r tm h nx else .bad 66 : Rc) = _
  cases evS c s α h nx with
  | bad n => rfl
  | ok v h nx => exact putK_eq s.dst v α _
theorem evR_cons {c : CallF} {s : IS} {ag : List IS} {r : IR} {α : T AV} {h : Hp} {nx : Pa} {α' : T AV} {h' : Hp} {nx' : Pa} (e : evR c (.cons s ag r) α h nx = .nx α' h' nx') :
    ∃ av h1 n1, evS c s α h nx = .ok av h1 n1 ∧ (ag = [] ∨ again ag (putD s.dst av α) h1 n1 = true) ∧ evR c r (putD s.dst av α) h1 n1 = .nx α' h' nx' := by
  have e : (Rv.casesOn (evS c s α h nx) (fun n => Rc.bad n) fun v h nx => List.casesOn ag (evR c r (putD s.dst v α) h nx) fun _ _ => bif again ag (putD s.dst v α) h nx then evR c r (putD s.dst v α) h nx else .bad 66 : Rc) = .nx α' h' nx' := by rw [← evR_step]; exact e
  cases e1 : evS c s α h nx with
  | bad n => rw [e1] at e; cases e
  | ok av h1 n1 =>
    rw [e1] at e
    refine ⟨av, h1, n1, rfl, ?_⟩
    cases ag with
    | nil => exact ⟨.inl rfl, e⟩
    | cons x l =>
      have e : (bif again (x :: l) (putD s.dst av α) h1 n1 then evR c r (putD s.dst av α) h1 n1 else .bad 66) = Rc.nx α' h' nx' := e
      cases e2 : again (x :: l) (putD s.dst av α) h1 n1 with
      | false => rw [e2] at e; cases e
      | true => rw [e2] at e; exact ⟨.inr rfl, e⟩
/-- Steps one behind the other. -/
theorem seq_ok {c : CallF} (hC : CallOk P c) {nt : Nat} {ops : Array Oper} {Q : Exit → Act → World → Prop} {α' : T AV} {h' : Hp} {nx' : Pa} : ∀ (l : List Oper) {ρ : Ren} {α : T AV} {a : Act} {w : World} {h : Hp} {nx : Pa}, HR ρ h nx w → TR ρ α a.tmps → nt ≤ a.tmps.size → evR c (cSeqR P nt ops l) α h nx = .nx α' h' nx' →
    (∀ ρ' a' w', TR ρ' α' a'.tmps → HR ρ' h' nx' w' → Stp ρ h w ρ' h' w' → a'.tmps.size = a.tmps.size → a'.defers = a.defers → Q .normal a' w') → wpList P ops Q l a w
  | [], ρ, α, a, w, h, nx, H, hT, hnt, e, hQ => by
    have e : Rc.nx α h nx = .nx α' h' nx' := e
    cases e
    exact hQ ρ a w hT H (Stp.refl _ _ _) rfl rfl
  | o :: l, ρ, α, a, w, h, nx, H, hT, hnt, e, hQ => by
    obtain ⟨av, h1, n1, e1, _, e2⟩ := evR_cons (show evR c (.cons (cS P nt ops o) [] (cSeqR P nt ops l)) α h nx = .nx α' h' nx' from e)
    unfold wpList
    refine step_ok hC H (hT.lr ops o) hnt e1 _ Q fun ρ1 v w1 k1 k2 k3 k4 => ?_
    rw [cS_dst] at e2
    refine seq_ok hC l k2 ((hT.mono k3.ext).put k4) (by rw [put_size]; exact hnt) e2 fun ρ' a' w' q1 q2 q3 q4 q5 => hQ ρ' a' w' q1 q2 (k3.trans q3) (by rw [q4, put_size]) (by rw [q5, put_defers])
end
end Go.Ev
end

section
open Go
namespace Go.Ev
section
variable {P : Program} {ops : Array Oper}
/-! ### masks -/
theorem has_lor (a b n : Nat) : has (Nat.lor a b) n = (has a n || has b n) := by show Nat.testBit (a ||| b) n = _; rw [Nat.testBit_or]; rfl
theorem has_bit (m n : Nat) : has (bit m) n = decide (m = n) := by
  show Nat.testBit (1 <<< m) n = _
  rw [Nat.one_shiftLeft, Nat.testBit_two_pow]
theorem has_zero (n : Nat) : has 0 n = false := Nat.zero_testBit n
theorem z0_land {a b : Nat} (h : z0 (Nat.land a b) = true) {n : Nat} (ha : has a n = true) (hb : has b n = true) : False := by
  have h : Nat.land a b = 0 := Nat.eq_of_beq_eq_true h
  have : Nat.testBit (a &&& b) n = true := by rw [Nat.testBit_and]; simp [show Nat.testBit a n = true from ha, show Nat.testBit b n = true from hb]
  rw [show (a &&& b) = 0 from h] at this; simp at this
theorem has_orL {l : List Nat} {n : Nat} : has (orL l) n = true ↔ ∃ m ∈ l, has m n = true := by
  induction l with
  | nil => simp [orL, has_zero]
  | cons x l ih => show has (Nat.lor x (orL l)) n = true ↔ _; rw [has_lor]; simp [ih]
theorem has_dst {o : Oper} {t : Nat} (h : o.dst = some t) : has (dstM o) t = true := by unfold dstM; rw [h]; simp [has_bit]
theorem has_look {o : Oper} {t : Nat} (h : t ∈ o.looksAt ops) : has (lookM ops o) t = true := by
  unfold Oper.looksAt at h
  unfold lookM
  rw [has_lor]
  rcases List.mem_append.1 h with h | h
  · obtain ⟨x, hx, hx'⟩ := List.mem_filterMap.1 h
    have : has (orL (o.op.operands.toList.map tmpM)) t = true := has_orL.2 ⟨tmpM x, List.mem_map.2 ⟨x, hx, rfl⟩, by
      cases x <;> simp at hx'; subst hx'; simp [tmpM, has_bit]⟩
    rw [this]; rfl
  · cases hg : o.guard with
    | none => rw [hg] at h; simp at h
    | some gw =>
      obtain ⟨g, w⟩ := gw
      rw [hg] at h
      simp only [Option.mem_toList] at h
      cases hq : ops[g]? with
      | none => rw [hq] at h; cases h
      | some q => rw [hq] at h; have : q.dst = some t := h; simp only [hq]; rw [has_dst this]; simp
inductive Anc (ops : Array Oper) : Nat → Nat → Prop where
  | one {i : Nat} {o : Oper} {e : Edge} : ops[i]? = some o → e ∈ o.after → Region.binds .any e = true → Anc ops e.on i
  | step {k j i : Nat} {o : Oper} {e : Edge} : Anc ops k j → ops[i]? = some o → e ∈ o.after → Region.binds .any e = true → e.on = j → Anc ops k i
/-- The data of an operation are its own. -/
structure ODok (P : Program) (ops : Array Oper) (d : OD) : Prop where
  ex : ∃ o, ops[d.i]? = some o ∧ d.pm = edgeM o ∧ d.lk = lookM ops o ∧ d.dm = dstM o ∧ d.kd = kdOf o.guard.isNone (cO P o)
  anc : ∀ k, has d.am k = true → Anc ops k d.i
  pre : ∀ k, has d.pm k = true → has d.am k = true
theorem has_edge {o : Oper} {k : Nat} : has (edgeM o) k = true ↔ ∃ e ∈ o.after, Region.binds .any e = true ∧ e.on = k := by
  unfold edgeM
  rw [has_orL]
  constructor
  · rintro ⟨m, hm, hk⟩
    obtain ⟨e, he, rfl⟩ := List.mem_map.1 hm
    cases hb : Region.binds .any e with
    | false => rw [hb] at hk; simp [has_zero] at hk
    | true => rw [hb] at hk; exact ⟨e, by simpa using he, hb, by simpa [has_bit] using hk⟩
  · rintro ⟨e, he, hb, rfl⟩
    exact ⟨_, List.mem_map.2 ⟨e, by simpa using he, rfl⟩, by rw [hb]; simp [has_bit]⟩
theorem has_anc {pm k : Nat} : ∀ {prev : List OD}, has (ancOf prev pm) k = true → has pm k = true ∨ ∃ d ∈ prev, has pm d.i = true ∧ has d.am k = true
  | [], h => .inl h
  | d :: prev, h => by
    have h : has (bif has pm d.i then Nat.lor d.am (ancOf prev pm) else ancOf prev pm) k = true := h
    cases hd : has pm d.i with
    | false =>
      rw [hd] at h
      rcases has_anc h with h | ⟨e, he, h1, h2⟩
      · exact .inl h
      · exact .inr ⟨e, by simp [he], h1, h2⟩
    | true =>
      rw [hd] at h
      have h : has (Nat.lor d.am (ancOf prev pm)) k = true := h
      rw [has_lor] at h
      cases ha : has d.am k with
      | true => exact .inr ⟨d, by simp, hd, ha⟩
      | false =>
        rw [ha] at h
        rcases has_anc (show has (ancOf prev pm) k = true from h) with h | ⟨e, he, h1, h2⟩
        · exact .inl h
        · exact .inr ⟨e, by simp [he], h1, h2⟩
theorem anc_pre {pm k : Nat} (h : has pm k = true) : ∀ prev : List OD, has (ancOf prev pm) k = true
  | [] => h
  | d :: prev => by
    show has (bif has pm d.i then Nat.lor d.am (ancOf prev pm) else ancOf prev pm) k = true
    cases has pm d.i with
    | false => exact anc_pre h prev
    | true => show has (Nat.lor d.am (ancOf prev pm)) k = true; rw [has_lor, anc_pre h prev]; simp
theorem ods_cons (o : Oper) (l : List Oper) (i : Nat) (acc : List OD) : ods P ops (o :: l) i acc = ods P ops l (i + 1) (⟨i, edgeM o, ancOf acc (edgeM o), lookM ops o, dstM o, kdOf o.guard.isNone (cO P o)⟩ :: acc) := by
  show force (edgeM o) (fun pm => force (ancOf acc pm) fun am => force (lookM ops o) fun lk => force (dstM o) fun dm => force (kdOf o.guard.isNone (cO P o)) fun kd => force i fun i => ods P ops l (Nat.succ i) (⟨i, pm, am, lk, dm, kd⟩ :: acc)) = _
  simp only [force_eq]
structure ODs (P : Program) (ops : Array Oper) (n : Nat) (l : List OD) : Prop where
  ok : ∀ d ∈ l, ODok P ops d
  lt : ∀ d ∈ l, d.i < n
  all : ∀ i, i < n → ∃ d ∈ l, d.i = i
  uniq : ∀ d ∈ l, ∀ d' ∈ l, d.i = d'.i → d = d'
theorem ods_ok : ∀ (l : List Oper) (i : Nat) (acc : List OD), ODs P ops i acc → (∀ j, l[j]? = ops[i + j]?) → ODs P ops (i + l.length) (ods P ops l i acc)
  | [], i, acc, h, _ => h
  | o :: l, i, acc, h, hl => by
    rw [ods_cons, List.length_cons, show i + (l.length + 1) = i + 1 + l.length by omega]
    have ho : ops[i]? = some o := by simpa using (hl 0).symm
    refine ods_ok l (i + 1) _ ⟨?_, ?_, ?_, ?_⟩ (fun j => by have := hl (j + 1); simpa [Nat.add_assoc, Nat.add_comm 1 j] using this)
    · intro d hd
      rcases List.mem_cons.1 hd with rfl | hd
      · refine ⟨⟨o, ho, rfl, rfl, rfl, rfl⟩, fun k hk => ?_, fun k hk => anc_pre hk _⟩
        rcases has_anc hk with hk | ⟨d, hd, h1, h2⟩
        · obtain ⟨e, he, hb, rfl⟩ := has_edge.1 hk
          exact .one ho he hb
        · obtain ⟨e, he, hb, h3⟩ := has_edge.1 h1
          exact .step ((h.ok d hd).anc k h2) ho he hb h3
      · exact h.ok d hd
    · intro d hd
      rcases List.mem_cons.1 hd with rfl | hd
      · exact Nat.lt_succ_self i
      · exact Nat.lt_succ_of_lt (h.lt d hd)
    · intro j hj
      by_cases hji : j = i
      · exact ⟨_, List.mem_cons_self, hji.symm⟩
      · obtain ⟨d, hd, h1⟩ := h.all j (by omega); exact ⟨d, by simp [hd], h1⟩
    · intro d hd d' hd' e
      rcases List.mem_cons.1 hd with rfl | hd <;> rcases List.mem_cons.1 hd' with rfl | hd'
      · rfl
      · have := h.lt d' hd'; simp only at e; omega
      · have := h.lt d hd; simp only at e; omega
      · exact h.uniq d hd d' hd' e
theorem ods_all : ODs P ops ops.size (ods P ops ops.toList 0 []) := by
  have := ods_ok (P := P) (ops := ops) ops.toList 0 [] ⟨by simp, by simp, by simp, by simp⟩ (by simp)
  simpa using this
/-! ### apart -/
def Apart (ops : Array Oper) (o o' : Oper) : Prop := (∀ t, o.dst = some t → t ∉ o'.looksAt ops) ∧ (∀ t, o.dst = some t → o'.dst ≠ some t) ∧ (∀ t, o'.dst = some t → t ∉ o.looksAt ops)
theorem apartD_ok {d d' : OD} {o o' : Oper} (h1 : d.lk = lookM ops o ∧ d.dm = dstM o) (h2 : d'.lk = lookM ops o' ∧ d'.dm = dstM o') (h : apartD d d' = true) : Apart ops o o' := by
  unfold apartD at h
  obtain ⟨a, b, c⟩ := and3 h
  rw [h1.2, h2.1] at a
  rw [h1.2, h2.2] at b
  rw [h1.1, h2.2] at c
  exact ⟨fun t e q => z0_land a (has_dst e) (has_look q), fun t e q => z0_land b (has_dst e) (has_dst q), fun t e q => z0_land c (has_dst e) (has_look q)⟩
theorem Apart.symm {o o' : Oper} (h : Apart ops o o') : Apart ops o' o := ⟨h.2.2, fun t e q => h.2.1 t q e, h.1⟩
theorem and_of {a b : Bool} (h : (a && b) = true) : a = true ∧ b = true := and_ok h
theorem or_of {a b : Bool} (h : (a || b) = true) : a = true ∨ b = true := by cases a <;> simp_all
theorem takeOk_spec {L : Nat} {x : OD} {l : List OD} (h : takeOk L x l = true) : z0 (Nat.land x.dm x.lk) = true ∧ ∀ k ∈ l, k.i ≠ x.i →
    (has L k.i = true → z0 (Nat.land x.dm k.lk) = true ∧ z0 (Nat.land x.dm k.dm) = true) ∧ (has L k.i = false → apartD x k = true ∨ has k.am x.i = true) := by
  replace h : (z0 (Nat.land x.dm x.lk) && (List.rec true (fun k _ ih => (Nat.beq k.i x.i || (bif has L k.i then z0 (Nat.land x.dm k.lk) && z0 (Nat.land x.dm k.dm) else apartD x k || has k.am x.i)) && ih) l : Bool)) = true := h
  obtain ⟨h1, h2⟩ := and_of h
  refine ⟨h1, ?_⟩
  clear h
  induction l with
  | nil => simp
  | cons y l ih =>
    obtain ⟨h3, h4⟩ := and_of (show ((Nat.beq y.i x.i || (bif has L y.i then z0 (Nat.land x.dm y.lk) && z0 (Nat.land x.dm y.dm) else apartD x y || has y.am x.i)) && (List.rec true (fun k _ ih => (Nat.beq k.i x.i || (bif has L k.i then z0 (Nat.land x.dm k.lk) && z0 (Nat.land x.dm k.dm) else apartD x k || has k.am x.i)) && ih) l : Bool)) = true from h2)
    intro k hk hne
    rcases List.mem_cons.1 hk with rfl | hk
    · rcases or_of h3 with h3 | h3
      · exact absurd (Nat.eq_of_beq_eq_true h3) hne
      · constructor
        · intro hL; rw [hL] at h3; exact and_of h3
        · intro hL; rw [hL] at h3; exact or_of h3
    · exact ih h4 k hk hne
theorem lateOk_spec {L LM : Nat} {x : OD} {l : List OD} (h : lateOk L LM x l = true) : z0 (Nat.land x.am LM) = true ∧ ∀ k ∈ l, k.i ≠ x.i → has L k.i = true → has x.am k.i = true ∨ apartD x k = true := by
  replace h : (z0 (Nat.land x.am LM) && (List.rec true (fun k _ ih => (Nat.beq k.i x.i || !has L k.i || has x.am k.i || apartD x k) && ih) l : Bool)) = true := h
  obtain ⟨h1, h2⟩ := and_of h
  refine ⟨h1, ?_⟩
  clear h
  induction l with
  | nil => simp
  | cons y l ih =>
    obtain ⟨h3, h4⟩ := and_of (show ((Nat.beq y.i x.i || !has L y.i || has x.am y.i || apartD x y) && (List.rec true (fun k _ ih => (Nat.beq k.i x.i || !has L k.i || has x.am k.i || apartD x k) && ih) l : Bool)) = true from h2)
    intro k hk hne hL
    rcases List.mem_cons.1 hk with rfl | hk
    · rcases or_of h3 with h3 | h3
      · rcases or_of h3 with h3 | h3
        · rcases or_of h3 with h3 | h3
          · exact absurd (Nat.eq_of_beq_eq_true h3) hne
          · rw [hL] at h3; cases h3
        · exact .inl h3
      · exact .inr h3
    · exact ih h4 k hk hne hL
theorem nextTake_spec {L : Nat} {all : List OD} : ∀ {l : List OD} {x : OD}, nextTake L all l = some x → x ∈ l ∧ x.kd ≤ 1 ∧ readyD L x = true ∧ takeOk L x all = true
  | [], _, h => by cases h
  | y :: l, x, h => by
    have h : (bif Nat.ble y.kd 1 && readyD L y && takeOk L y all then some y else nextTake L all l) = some x := h
    cases hc : (Nat.ble y.kd 1 && readyD L y && takeOk L y all) with
    | true =>
      rw [hc] at h; cases h
      obtain ⟨a, b, c⟩ := and3 hc
      exact ⟨by simp, Nat.le_of_ble_eq_true a, b, c⟩
    | false => rw [hc] at h; obtain ⟨a, b⟩ := nextTake_spec (show nextTake L all l = some x from h); exact ⟨by simp [a], b⟩
theorem nextLate_spec {L : Nat} : ∀ {l : List OD} {x : OD}, nextLate L l = some x → x ∈ l ∧ x.kd = 3 ∧ readyD L x = true
  | [], _, h => by cases h
  | y :: l, x, h => by
    have h : (bif readyD L y && Nat.beq y.kd 3 then some y else nextLate L l) = some x := h
    cases hc : (readyD L y && Nat.beq y.kd 3) with
    | true =>
      rw [hc] at h; cases h
      obtain ⟨a, b⟩ := and_of hc
      exact ⟨by simp, Nat.eq_of_beq_eq_true b, a⟩
    | false => rw [hc] at h; obtain ⟨a, b⟩ := nextLate_spec (show nextLate L l = some x from h); exact ⟨by simp [a], b⟩
theorem readies_spec {L : Nat} : ∀ {l : List OD} {x : OD}, x ∈ readies L l ↔ x ∈ l ∧ readyD L x = true ∧ x.kd ≠ 3
  | [], _ => by simp [readies]
  | y :: l, x => by
    have e : readies L (y :: l) = (bif readyD L y && !Nat.beq y.kd 3 then y :: readies L l else readies L l) := rfl
    rw [e]
    cases hc : (readyD L y && !Nat.beq y.kd 3) with
    | true =>
      obtain ⟨a, b⟩ := and_of hc
      have b : y.kd ≠ 3 := fun q => by rw [q] at b; cases b
      simp only [cond_true, List.mem_cons, readies_spec (l := l)]
      constructor
      · rintro (rfl | h)
        · exact ⟨.inl rfl, a, b⟩
        · exact ⟨.inr h.1, h.2⟩
      · rintro ⟨rfl | h, h2⟩
        · exact .inl rfl
        · exact .inr ⟨h, h2⟩
    | false =>
      simp only [cond_false, readies_spec (l := l), List.mem_cons]
      constructor
      · exact fun h => ⟨.inr h.1, h.2⟩
      · rintro ⟨rfl | h, h2, h3⟩
        · rw [h2] at hc
          have : Nat.beq x.kd 3 = false := by cases q : Nat.beq x.kd 3 with | false => rfl | true => exact absurd (Nat.eq_of_beq_eq_true q) h3
          rw [this] at hc; cases hc
        · exact ⟨h, h2, h3⟩
theorem lookAgain_spec {L : Nat} {x : OD} : ∀ {l : List OD} {k : OD}, k ∈ l → k.kd = 1 → has L k.i = true → has x.am k.i = false → k.i ∈ lookAgain L x l
  | y :: l, k, hk, h1, h2, h3 => by
    show k.i ∈ (bif Nat.beq y.kd 1 && has L y.i && !has x.am y.i then y.i :: lookAgain L x l else lookAgain L x l)
    rcases List.mem_cons.1 hk with rfl | hk
    · rw [h1, h2, h3]; simp
    · have ih := lookAgain_spec hk h1 h2 h3
      cases (Nat.beq y.kd 1 && has L y.i && !has x.am y.i) with
      | true => exact List.mem_cons_of_mem _ ih
      | false => exact ih
theorem readyD_spec {L : Nat} {x : OD} : readyD L x = true ↔ has L x.i = false ∧ ∀ k, has x.pm k = true → has L k = true := by
  unfold readyD
  constructor
  · intro h
    obtain ⟨a, b⟩ := and_of h
    refine ⟨by simpa using a, fun k hk => ?_⟩
    have b : x.pm &&& L = x.pm := Nat.eq_of_beq_eq_true b
    have : Nat.testBit (x.pm &&& L) k = true := by rw [b]; exact hk
    rw [Nat.testBit_and] at this
    exact (and_of this).2
  · rintro ⟨a, b⟩
    rw [a]
    have : x.pm &&& L = x.pm := by
      apply Nat.eq_of_testBit_eq
      intro k
      rw [Nat.testBit_and]
      cases hk : Nat.testBit x.pm k with
      | false => rfl
      | true => rw [show Nat.testBit L k = true from b k hk]; rfl
    show (!false && Nat.beq (x.pm &&& L) x.pm) = true
    rw [this]; simp
end
end Go.Ev
end

section
open Go
namespace Go.Ev
/-- Memory is left as it is. -/
def Keeps (f : OpF) : Prop := ∀ α h nx av h' nx', f α h nx = .ok av h' nx' → h' = h ∧ nx' = nx
/-- And not looked at. -/
def Pure (f : OpF) : Prop := ∀ α h nx av h' nx', f α h nx = .ok av h' nx' → h' = h ∧ nx' = nx ∧ ∀ h2 n2, f α h2 n2 = .ok av h2 n2
def K1 (k : AV → Hp → Pa → Rv) : Prop := ∀ x h nx av h' nx', k x h nx = .ok av h' nx' → h' = h ∧ nx' = nx
def P1 (k : AV → Hp → Pa → Rv) : Prop := ∀ x h nx av h' nx', k x h nx = .ok av h' nx' → h' = h ∧ nx' = nx ∧ ∀ h2 n2, k x h2 n2 = .ok av h2 n2
def K2 (k : AV → AV → Hp → Pa → Rv) : Prop := ∀ x y h nx av h' nx', k x y h nx = .ok av h' nx' → h' = h ∧ nx' = nx
def P2 (k : AV → AV → Hp → Pa → Rv) : Prop := ∀ x y h nx av h' nx', k x y h nx = .ok av h' nx' → h' = h ∧ nx' = nx ∧ ∀ h2 n2, k x y h2 n2 = .ok av h2 n2
theorem Pure.keeps {f : OpF} (h : Pure f) : Keeps f := fun α h0 nx av h' nx' e => ⟨(h α h0 nx av h' nx' e).1, (h α h0 nx av h' nx' e).2.1⟩
theorem P1.k {f : AV → Hp → Pa → Rv} (h : P1 f) : K1 f := fun α h0 nx av h' nx' e => ⟨(h α h0 nx av h' nx' e).1, (h α h0 nx av h' nx' e).2.1⟩
theorem K1.on {x : XO} {k : AV → Hp → Pa → Rv} (hk : K1 k) : Keeps (on1 x k) := fun α h nx av h' nx' e => by
  unfold on1 at e; cases e1 : eX x α with
  | none => rw [e1] at e; cases e
  | some v => rw [e1] at e; exact hk v h nx av h' nx' e
theorem P1.on {x : XO} {k : AV → Hp → Pa → Rv} (hk : P1 k) : Pure (on1 x k) := fun α h nx av h' nx' e => by
  unfold on1 at e ⊢; cases e1 : eX x α with
  | none => rw [e1] at e; cases e
  | some v => rw [e1] at e; exact hk v h nx av h' nx' e
theorem K2.on {x y : XO} {k : AV → AV → Hp → Pa → Rv} (hk : K2 k) : Keeps (on2 x y k) := fun α h nx av h' nx' e => by
  unfold on2 at e; cases e1 : eX x α with
  | none => rw [e1] at e; cases e
  | some v =>
    cases e2 : eX y α with
    | none => rw [e1, e2] at e; cases e
    | some u => rw [e1, e2] at e; exact hk v u h nx av h' nx' e
theorem P2.on {x y : XO} {k : AV → AV → Hp → Pa → Rv} (hk : P2 k) : Pure (on2 x y k) := fun α h nx av h' nx' e => by
  unfold on2 at e ⊢; cases e1 : eX x α with
  | none => rw [e1] at e; cases e
  | some v =>
    cases e2 : eX y α with
    | none => rw [e1, e2] at e; cases e
    | some u => rw [e1, e2] at e; simp only; exact hk v u h nx av h' nx' e
theorem pOk {v av : AV} {h h' : Hp} {n n' : Pa} (e : Rv.ok v h n = .ok av h' n') : h' = h ∧ n' = n ∧ ∀ h2 n2, Rv.ok v h2 n2 = .ok av h2 n2 := by cases e; exact ⟨rfl, rfl, fun _ _ => rfl⟩
theorem opt_p {α : Type} {o : Option α} {k : Nat} {f : α → AV} {h h' : Hp} {n n' : Pa} {av : AV} (e : (Option.casesOn o (.bad k) fun v => Rv.ok (f v) h n : Rv) = .ok av h' n') : h' = h ∧ n' = n ∧ ∀ h2 n2, (Option.casesOn o (.bad k) fun v => Rv.ok (f v) h2 n2 : Rv) = .ok av h2 n2 := by
  cases o with
  | none => cases e
  | some v => exact pOk e
theorem bif_p {b : Bool} {x : Rv} {k : Nat} {h h' : Hp} {n n' : Pa} {av : AV} {g : Hp → Pa → Rv} (hx : x = g h n) (hg : g h n = .ok av h' n' → h' = h ∧ n' = n ∧ ∀ h2 n2, g h2 n2 = .ok av h2 n2) (e : (bif b then x else .bad k) = .ok av h' n') : h' = h ∧ n' = n ∧ ∀ h2 n2, (bif b then g h2 n2 else .bad k) = .ok av h2 n2 := by
  cases b with
  | false => cases e
  | true => subst hx; exact hg e
theorem p_mv : P1 fun v h nx => .ok v h nx := fun _ _ _ _ _ _ e => pOk e
theorem p_nilc : P1 oNilc := fun x h nx av h' nx' e => by unfold oNilc at e ⊢; split at e <;> first | exact pOk e | cases e
theorem p_bin (op : BinOp) : P2 (oBin op) := fun x y h nx av h' nx' e => opt_p e
theorem p_eqb (ne : Bool) : P2 (eqB ne) := fun x y h nx av h' nx' e => by unfold eqB at e ⊢; split at e <;> first | exact pOk e | cases e
theorem p_eqn (k : NK) (ne : Bool) : P2 (eqN k ne) := fun x y h nx av h' nx' e => by unfold eqN at e ⊢; exact opt_p (f := fun r => .b (bif ne then !r else r)) e
theorem p_eqa (ks : List Nat) (ne : Bool) : P2 (eqA2 ks ne) := fun x y h nx av h' nx' e => by unfold eqA2 at e ⊢; split at e <;> first | exact opt_p (f := fun r => .b (bif ne then !r else r)) e | cases e
theorem p_un (op : UnOp) : P1 (oUn op) := fun x h nx av h' nx' e => by
  unfold oUn at e ⊢
  split at e
  · split at e <;> first | exact pOk e | cases e
  · split at e <;> first | exact pOk e | cases e
  · split at e
    · exact bif_p (g := fun h n => .ok _ h n) rfl pOk e
    · cases e
  · cases e
theorem p_cvi (k : IntKind) : P1 (oCvi k) := fun x h nx av h' nx' e => by unfold oCvi at e ⊢; split at e <;> first | exact pOk e | cases e
theorem p_cvs : P1 oCvs := fun x h nx av h' nx' e => by unfold oCvs at e ⊢; split at e <;> first | exact pOk e | cases e
theorem p_fa (off : Nat) : P1 (oFa off) := fun x h nx av h' nx' e => by unfold oFa at e ⊢; split at e <;> first | (simp only [force_eq] at e ⊢; exact pOk e) | cases e
theorem p_fld (off k : Nat) (agg : Bool) : P1 (oFld off k agg) := fun x h nx av h' nx' e => by unfold oFld at e ⊢; split at e <;> first | exact opt_p (f := fun v => v) e | cases e
theorem p_ia (es : Nat) : P2 (oIa es) := fun x y h nx av h' nx' e => by
  unfold oIa at e ⊢
  split at e
  · split at e
    · simp only [force_eq] at e ⊢; exact bif_p (g := fun h n => .ok _ h n) rfl pOk e
    · simp only [force_eq] at e ⊢; exact bif_p (g := fun h n => .ok _ h n) rfl pOk e
    · cases e
  · cases e
theorem p_iaa (n es : Nat) : P2 (oIaa n es) := fun x y h nx av h' nx' e => by
  unfold oIaa at e ⊢
  split at e
  · split at e
    · simp only [force_eq] at e ⊢; exact bif_p (g := fun h n => .ok _ h n) rfl pOk e
    · cases e
  · cases e
theorem p_idx : P2 oIdx := fun x y h nx av h' nx' e => by unfold oIdx at e ⊢; split at e <;> first | exact opt_p (f := fun b => mkI .u8 (.ofNat (Nat.mod b 256))) e | cases e
theorem p_ixa (n es : Nat) (agg : Bool) : P2 (oIxa n es agg) := fun x y h nx av h' nx' e => by
  unfold oIxa at e ⊢
  split at e
  · exact bif_p (g := fun h n => Option.casesOn (part _ es agg _) (.bad 33) fun v => .ok v h n) rfl (opt_p (f := fun v => v)) e
  · cases e
theorem p_ext (n : Nat) : P1 (oExt n) := fun x h nx av h' nx' e => by unfold oExt at e ⊢; split at e <;> first | exact opt_p (f := fun v => v) e | cases e
theorem k_ld : K1 oLd := fun x h nx av h' nx' e => by
  unfold oLd at e
  split at e
  · rename_i id off
    cases e1 : getP id h with
    | none => rw [e1] at e; cases e
    | some b =>
      rw [e1] at e
      cases b with
      | ce tr n rw' pl =>
        simp only at e
        cases e2 : getP (path off) tr with
        | none => rw [e2] at e; cases e
        | some v => rw [e2] at e; cases e; exact ⟨rfl, rfl⟩
      | mp _ _ => cases e
      | ch _ _ _ _ => cases e
      | it _ _ _ _ => cases e
  · cases e
theorem k_lda (k : Nat) : K1 (oLda k) := fun x h nx av h' nx' e => by
  unfold oLda at e
  split at e
  · rename_i id off
    cases e1 : getP id h with
    | none => rw [e1] at e; cases e
    | some b =>
      rw [e1] at e
      cases b with
      | ce tr n rw' pl =>
        simp only at e
        cases e2 : cells tr k off with
        | none => rw [e2] at e; cases e
        | some v => rw [e2] at e; cases e; exact ⟨rfl, rfl⟩
      | mp _ _ => cases e
      | ch _ _ _ _ => cases e
      | it _ _ _ _ => cases e
  · cases e
theorem k_b2s : K1 oB2s := fun x h nx av h' nx' e => by
  unfold oB2s at e
  cases e1 : sCells 1 x h with
  | none => rw [e1] at e; cases e
  | some l =>
    rw [e1] at e
    cases e2 : byA l with
    | none => simp only [e2] at e; cases e
    | some v => simp only [e2] at e; cases e; exact ⟨rfl, rfl⟩
theorem k_len (k : LK) : K1 (oLen k) := fun x h nx av h' nx' e => by
  cases k with
  | s => replace e : lenS x h nx = .ok av h' nx' := e; unfold lenS at e; split at e <;> cases e <;> exact ⟨rfl, rfl⟩
  | l => replace e : lenSl x h nx = .ok av h' nx' := e; unfold lenSl at e; split at e <;> cases e <;> exact ⟨rfl, rfl⟩
  | m =>
    replace e : lenM x h nx = .ok av h' nx' := e
    unfold lenM at e
    split at e
    · cases e; exact ⟨rfl, rfl⟩
    · rename_i id
      cases e1 : getP id h with
      | none => rw [e1] at e; cases e
      | some b => rw [e1] at e; cases b <;> cases e; exact ⟨rfl, rfl⟩
    · cases e
  | c =>
    replace e : lenC x h nx = .ok av h' nx' := e
    unfold lenC at e
    split at e
    · rename_i id
      cases e1 : getP id h with
      | none => rw [e1] at e; cases e
      | some b => rw [e1] at e; cases b <;> cases e; exact ⟨rfl, rfl⟩
    · cases e
theorem k_lkp (kk : Nat) (z : AV) (ok : Bool) : K2 (oLkp kk z ok) := fun x y h nx av h' nx' e => by
  unfold oLkp at e
  replace ⟨_, e⟩ := cut1 e (noBad _)
  split at e
  · cases e; exact ⟨rfl, rfl⟩
  · rename_i id
    cases e1 : getP id h with
    | none => rw [e1] at e; cases e
    | some b =>
      rw [e1] at e
      cases b with
      | mp es c =>
        simp only at e
        cases e2 : findM y es with
        | none => rw [e2] at e; cases e
        | some r =>
          rw [e2] at e
          cases r with
          | none => cases e; exact ⟨rfl, rfl⟩
          | some p => cases e; exact ⟨rfl, rfl⟩
      | ce _ _ _ _ => cases e
      | ch _ _ _ _ => cases e
      | it _ _ _ _ => cases e
  · cases e
theorem opt4 {α : Type} {o : Option α} {k : Nat} {g : α → Rv} {r : Rv} (e : (Option.casesOn o (.bad k) g : Rv) = r) (hr : ∀ n, r ≠ .bad n) : ∃ v, o = some v ∧ g v = r := by
  cases o with
  | none => exact absurd e.symm (hr k)
  | some v => exact ⟨v, rfl, e⟩
theorem okNe {v : AV} {h : Hp} {n : Pa} : ∀ k, Rv.ok v h n ≠ .bad k := fun _ e => by cases e
theorem k_slc (es : Nat) (x : XO) (lo hi mx : Option XO) : Keeps (oSlc es x lo hi mx) := fun α h nx av h' nx' e => by
  replace ⟨_, _, e⟩ := opt4 e okNe
  replace ⟨_, _, e⟩ := opt4 e okNe
  replace ⟨_, _, e⟩ := opt4 e okNe
  replace ⟨_, _, e⟩ := opt4 e okNe
  replace ⟨_, _, e⟩ := opt4 e okNe
  cases e; exact ⟨rfl, rfl⟩
theorem p_sls (x : XO) (lo hi : Option XO) : Pure (oSlS x lo hi) := fun α h nx av h' nx' e => by
  replace ⟨_, e1, e⟩ := opt4 e okNe
  replace ⟨_, e2, e⟩ := opt4 e okNe
  replace ⟨_, e3, e⟩ := opt4 e okNe
  replace ⟨_, e4, e⟩ := opt4 e okNe
  cases e; exact ⟨rfl, rfl, fun h2 n2 => by unfold oSlS; rw [e1, e2, e3]; simp only [e4]⟩
theorem slc2_sl (es : Nat) (id : Pa) (off len cap : Nat) (lo hi mx : Option AV) (h h' : Hp) : slc2 es (.sl id off len cap) lo hi mx h = slc2 es (.sl id off len cap) lo hi mx h' := rfl
theorem p_sla (n es : Nat) (x : XO) (lo hi : Option XO) : Pure (oSla n es x lo hi) := fun α h nx av h' nx' e => by
  replace ⟨v, e1, e⟩ := opt4 e okNe
  replace ⟨_, e2, e⟩ := opt4 e okNe
  replace ⟨_, e3, e⟩ := opt4 e okNe
  split at e
  · replace ⟨_, e4, e⟩ := opt4 e okNe
    cases e; exact ⟨rfl, rfl, fun h2 n2 => by unfold oSla; rw [e1, e2, e3]; simp only; rw [slc2_sl _ _ _ _ _ _ _ _ h2 h, e4]⟩
  · cases e
theorem p_build (z : AV) (ps : List (Nat × Nat × XO)) : Pure (oBuild z ps) := fun α h nx av h' nx' e => opt_p (f := fun c => .ag c) e
theorem p_mkf (fn : Nat) (a b : List XO) : Pure (oMkf fn a b) := fun α h nx av h' nx' e => by
  replace ⟨_, e1, e⟩ := opt4 e okNe
  replace ⟨_, e2, e⟩ := opt4 e okNe
  cases e; exact ⟨rfl, rfl, fun h2 n2 => by unfold oMkf; rw [e1]; simp only [e2]⟩
theorem p_mm (lt : Bool) (x : XO) (l : List XO) : Pure (oMm lt x l) := fun α h nx av h' nx' e => by
  replace ⟨_, e1, e⟩ := opt4 e okNe
  replace ⟨_, e2, e⟩ := opt4 e okNe
  cases e; exact ⟨rfl, rfl, fun h2 n2 => by unfold oMm; rw [e1]; simp only [e2]⟩
theorem p_pick (c a b : XO) : Pure (on3 c a b oPick) := fun α h nx av h' nx' e => by
  replace ⟨v, e1, e⟩ := opt4 e okNe
  replace ⟨u, e2, e⟩ := opt4 e okNe
  replace ⟨q, e3, e⟩ := opt4 e okNe
  unfold oPick at e
  split at e
  · rename_i t
    cases t <;> (cases e; exact ⟨rfl, rfl, fun h2 n2 => by unfold on3; rw [e1]; simp only [e2, e3]; rfl⟩)
  · cases e
/-- What may be taken first leaves memory as it is; what is no 'world' doesn't look at it. -/
theorem take_ok {o : IOp} (h : isTake o = true) (c : CallF) : Keeps (evI c o) ∧ (isWorld o = false → Pure (evI c o)) ∧ evI c o = evI noCall o := by
  cases o with
  | mv x => exact ⟨(P1.on p_mv).keeps, fun _ => P1.on p_mv, rfl⟩
  | pick c a b => exact ⟨(p_pick c a b).keeps, fun _ => p_pick c a b, rfl⟩
  | build z ps => exact ⟨(p_build z ps).keeps, fun _ => p_build z ps, rfl⟩
  | ld a => exact ⟨K1.on k_ld, (fun q => by cases q), rfl⟩
  | lda k a => exact ⟨K1.on (k_lda k), (fun q => by cases q), rfl⟩
  | nilc x => exact ⟨(P1.on p_nilc).keeps, fun _ => P1.on p_nilc, rfl⟩
  | bin op x y => exact ⟨(P2.on (p_bin op)).keeps, fun _ => P2.on (p_bin op), rfl⟩
  | eqb ne x y => exact ⟨(P2.on (p_eqb ne)).keeps, fun _ => P2.on (p_eqb ne), rfl⟩
  | eqn k ne x y => exact ⟨(P2.on (p_eqn k ne)).keeps, fun _ => P2.on (p_eqn k ne), rfl⟩
  | eqa ks ne x y => exact ⟨(P2.on (p_eqa ks ne)).keeps, fun _ => P2.on (p_eqa ks ne), rfl⟩
  | un op x => exact ⟨(P1.on (p_un op)).keeps, fun _ => P1.on (p_un op), rfl⟩
  | cvi k x => exact ⟨(P1.on (p_cvi k)).keeps, fun _ => P1.on (p_cvi k), rfl⟩
  | cvs x => exact ⟨(P1.on p_cvs).keeps, fun _ => P1.on p_cvs, rfl⟩
  | b2s x => exact ⟨K1.on k_b2s, (fun q => by cases q), rfl⟩
  | mkf fn a b => exact ⟨(p_mkf fn a b).keeps, fun _ => p_mkf fn a b, rfl⟩
  | slc es x lo hi mx => exact ⟨k_slc es x lo hi mx, (fun q => by cases q), rfl⟩
  | sla n es x lo hi => exact ⟨(p_sla n es x lo hi).keeps, fun _ => p_sla n es x lo hi, rfl⟩
  | sls x lo hi => exact ⟨(p_sls x lo hi).keeps, fun _ => p_sls x lo hi, rfl⟩
  | fa off x => exact ⟨(P1.on (p_fa off)).keeps, fun _ => P1.on (p_fa off), rfl⟩
  | fld off k agg x => exact ⟨(P1.on (p_fld off k agg)).keeps, fun _ => P1.on (p_fld off k agg), rfl⟩
  | ia es x ix => exact ⟨(P2.on (p_ia es)).keeps, fun _ => P2.on (p_ia es), rfl⟩
  | iaa n es x ix => exact ⟨(P2.on (p_iaa n es)).keeps, fun _ => P2.on (p_iaa n es), rfl⟩
  | idx x ix => exact ⟨(P2.on p_idx).keeps, fun _ => P2.on p_idx, rfl⟩
  | ixa n es agg x ix => exact ⟨(P2.on (p_ixa n es agg)).keeps, fun _ => P2.on (p_ixa n es agg), rfl⟩
  | lkp kk z ok m k => exact ⟨K2.on (k_lkp kk z ok), (fun q => by cases q), rfl⟩
  | ext n x => exact ⟨(P1.on (p_ext n)).keeps, fun _ => P1.on (p_ext n), rfl⟩
  | len k x => exact ⟨K1.on (k_len k), (fun q => by cases q), rfl⟩
  | mn x l => exact ⟨(p_mm true x l).keeps, fun _ => p_mm true x l, rfl⟩
  | mx x l => exact ⟨(p_mm false x l).keeps, fun _ => p_mm false x l, rfl⟩
  | _ => cases h
/-- What floats: a new block, whatever memory there is. -/
theorem late_ok {o : IOp} (h : isLate o = true) (c : CallF) {α : T AV} {h0 h1 : Hp} {n0 n1 : Pa} {av : AV} (e : evI c o α h0 n0 = .ok av h1 n1) :
    ∃ (b : Blk) (mk : Pa → AV), b.own = true ∧ ∀ h' n', evI c o α h' n' = .ok (mk n') (setP (some b) n' h') n'.succ := by
  cases o with
  | new z => exact ⟨newBlk z, fun n => .p n 0, by rw [newBlk_eq]; rfl, fun h' n' => rfl⟩
  | bsl len z ps =>
    replace ⟨r, e1, e⟩ := opt4 e okNe
    exact ⟨newBlk r, fun n => .sl n 0 len len, by rw [newBlk_eq]; rfl, fun h' n' => by show oBsl len z ps α h' n' = _; unfold oBsl; rw [e1]⟩
  | mkc x =>
    replace ⟨v, e1, e⟩ := opt4 e okNe
    unfold oMkc at e
    split at e
    · rename_i n
      replace ⟨hb, e⟩ := cut1 e (noBad _)
      exact ⟨.ch n .nl 0 0, fun n => .c n, rfl, fun h' n' => by show on1 x oMkc α h' n' = _; unfold on1 oMkc; rw [e1]; simp only [hb, cond_true]⟩
    · cases e
  | _ => cases h
theorem eqPl_eq : ∀ a b : List Pa, eqPl a b = true → a = b
  | [], [], _ => rfl
  | [], _ :: _, h => by cases h
  | _ :: _, [], h => by cases h
  | x :: a, y :: b, h => by
    have h : (bif eqPa x y then eqPl a b else false) = true := h
    cases e : eqPa x y with
    | false => rw [e] at h; cases h
    | true => rw [e] at h; rw [eqPa_eq _ _ e, eqPl_eq a b h]
theorem eqA_V {ρ : Ren} : ∀ (a b : AV), eqA a b = true → (∀ v, V ρ a v → V ρ b v) ∧ (∀ l, Vs ρ a l → Vs ρ b l)
  | .nl, b, e => by
    replace e : (match (generalizing := false) b with | .nl => true | _ => false) = true := e
    split at e
    · exact ⟨fun _ h => h, fun _ h => h⟩
    · cases e
  | .cn x y, b, e => by
    replace e : (match (generalizing := false) b with | .cn u v => eqA x u && eqA y v | _ => false) = true := e
    split at e
    · rename_i u v
      obtain ⟨h1, h2⟩ := and_ok e
      exact ⟨fun _ h => h, fun l ⟨p, q, h3, h4, h5⟩ => ⟨p, q, h3, (eqA_V x u h1).1 _ h4, (eqA_V y v h2).2 _ h5⟩⟩
    · cases e
  | .b x, b, e => by
    replace e : (match (generalizing := false) b with | .b y => bif x then y else !y | _ => false) = true := e
    split at e
    · rename_i y; cases x <;> cases y <;> first | (cases e; done) | exact ⟨fun _ h => h, fun _ h => h⟩
    · cases e
  | .i k n, b, e => by
    replace e : (match (generalizing := false) b with | .i k' n' => eqK k k' && eqI n n' | _ => false) = true := e
    split at e
    · rename_i k' n'
      obtain ⟨h1, h2⟩ := and_ok e
      cases eqK_iff h1
      rw [eqI_eq] at h2
      have : n = n' := by simpa using h2
      subst this
      exact ⟨fun _ h => h, fun _ h => h⟩
    · cases e
  | .s l, b, e => by
    replace e : (match (generalizing := false) b with | .s l' => eqS l l' | _ => false) = true := e
    split at e
    · rename_i l'
      rw [eqS_eq] at e
      have : l.map UInt8.ofNat = l'.map UInt8.ofNat := by simpa using e
      exact ⟨fun v h => by have h : v = .string (bsOf l) := h; rw [h]; show _ = Value.string (bsOf l'); simp [bsOf, this], fun _ h => h⟩
    · cases e
  | .np, b, e => by
    replace e : (match (generalizing := false) b with | .np => true | _ => false) = true := e
    split at e
    · exact ⟨fun _ h => h, fun _ h => h⟩
    · cases e
  | .p id off, b, e => by
    replace e : (match (generalizing := false) b with | .p id' off' => eqPa id id' && Nat.beq off off' | _ => false) = true := e
    split at e
    · obtain ⟨h1, h2⟩ := and_ok e
      cases eqPa_eq _ _ h1; cases Nat.eq_of_beq_eq_true h2
      exact ⟨fun _ h => h, fun _ h => h⟩
    · cases e
  | .ns, b, e => by
    replace e : (match (generalizing := false) b with | .ns => true | _ => false) = true := e
    split at e
    · exact ⟨fun _ h => h, fun _ h => h⟩
    · cases e
  | .se, b, e => by
    replace e : (match (generalizing := false) b with | .se => true | _ => false) = true := e
    split at e
    · exact ⟨fun _ h => h, fun _ h => h⟩
    · cases e
  | .sl id off len cap, b, e => by
    replace e : (match (generalizing := false) b with | .sl id' off' len' cap' => eqPa id id' && Nat.beq off off' && Nat.beq len len' && Nat.beq cap cap' | _ => false) = true := e
    split at e
    · obtain ⟨h1, h2, h3, h4⟩ := and4 e
      cases eqPa_eq _ _ h1; cases Nat.eq_of_beq_eq_true h2; cases Nat.eq_of_beq_eq_true h3; cases Nat.eq_of_beq_eq_true h4
      exact ⟨fun _ h => h, fun _ h => h⟩
    · cases e
  | .so id off len es, b, e => by
    replace e : (match (generalizing := false) b with | .so id' off' len' es' => eqPa id id' && Nat.beq off off' && Nat.beq len len' && Nat.beq es es' | _ => false) = true := e
    split at e
    · obtain ⟨h1, h2, h3, h4⟩ := and4 e
      cases eqPa_eq _ _ h1; cases Nat.eq_of_beq_eq_true h2; cases Nat.eq_of_beq_eq_true h3; cases Nat.eq_of_beq_eq_true h4
      exact ⟨fun _ h => h, fun _ h => h⟩
    · cases e
  | .nm, b, e => by
    replace e : (match (generalizing := false) b with | .nm => true | _ => false) = true := e
    split at e
    · exact ⟨fun _ h => h, fun _ h => h⟩
    · cases e
  | .m id, b, e => by
    replace e : (match (generalizing := false) b with | .m id' => eqPa id id' | _ => false) = true := e
    split at e
    · cases eqPa_eq _ _ e; exact ⟨fun _ h => h, fun _ h => h⟩
    · cases e
  | .nc, b, e => by
    replace e : (match (generalizing := false) b with | .nc => true | _ => false) = true := e
    split at e
    · exact ⟨fun _ h => h, fun _ h => h⟩
    · cases e
  | .c id, b, e => by
    replace e : (match (generalizing := false) b with | .c id' => eqPa id id' | _ => false) = true := e
    split at e
    · cases eqPa_eq _ _ e; exact ⟨fun _ h => h, fun _ h => h⟩
    · cases e
  | .nf, b, e => by
    replace e : (match (generalizing := false) b with | .nf => true | _ => false) = true := e
    split at e
    · exact ⟨fun _ h => h, fun _ h => h⟩
    · cases e
  | .f f x y, b, e => by
    replace e : (match (generalizing := false) b with | .f f' u v => Nat.beq f f' && eqA x u && eqA y v | _ => false) = true := e
    split at e
    · obtain ⟨h1, h2, h3⟩ := and3 e
      cases Nat.eq_of_beq_eq_true h1
      exact ⟨fun v ⟨p, q, h4, h5, h6⟩ => ⟨p, q, (eqA_V x _ h2).2 _ h4, (eqA_V y _ h3).2 _ h5, h6⟩, fun _ h => h⟩
    · cases e
  | .ag l, b, e => by
    replace e : (match (generalizing := false) b with | .ag l' => eqA l l' | _ => false) = true := e
    split at e
    · exact ⟨fun v ⟨p, h4, h6⟩ => ⟨p, (eqA_V l _ e).2 _ h4, h6⟩, fun _ h => h⟩
    · cases e
  | .tp l, b, e => by
    replace e : (match (generalizing := false) b with | .tp l' => eqA l l' | _ => false) = true := e
    split at e
    · exact ⟨fun v ⟨p, h4, h6⟩ => ⟨p, (eqA_V l _ e).2 _ h4, h6⟩, fun _ h => h⟩
    · cases e
  | .uk, b, e => by
    replace e : (match (generalizing := false) b with | .uk => true | _ => false) = true := e
    split at e
    · exact ⟨fun _ h => h, fun _ h => h⟩
    · cases e
  | .y id l r, b, e => by
    replace e : (match (generalizing := false) b with | .y id' l' r' => eqPa id id' && (eqPl l l' && (bif r then r' else !r')) | _ => false) = true := e
    split at e
    · rename_i id' l' r'
      obtain ⟨h1, h2⟩ := and_ok e
      obtain ⟨h2, h3⟩ := and_ok h2
      cases eqPa_eq _ _ h1; cases eqPl_eq _ _ h2
      have : r = r' := by cases r <;> cases r' <;> first | rfl | cases h3
      subst this
      exact ⟨fun _ h => h, fun _ h => h⟩
    · cases e
end Go.Ev
end

section
open Go
namespace Go.Ev
section
variable {P : Program} {ops : Array Oper}
/-- Nothing but x and what floats may come up, even where all that floats (but x) has. -/
def NoR (all : List OD) (L LM : Nat) (x : OD) : Prop := ∀ y ∈ all, y.kd ≠ 3 → has L y.i = false → (∀ k, has y.pm k = true → has L k = true ∨ (has LM k = true ∧ k ≠ x.i)) → False
inductive SC (all : List OD) (LM n L : Nat) : Sc → Prop where
  | fin : L = allL all → SC all LM n L .end
  | tk (x : OD) : x ∈ all → x.kd ≤ 1 → readyD L x = true → takeOk L x all = true → SC all LM n L (.take x.i (sched all LM n (Nat.lor L (bit x.i))))
  | dox (x : OD) : x ∈ all → x.kd ≠ 3 → readyD L x = true → (∀ y ∈ all, y.kd ≠ 3 → has L y.i = false → (∀ k, has y.pm k = true → has L k = true ∨ has LM k = true) → y = x) → SC all LM n L (.do x.i (lookAgain L x all) (sched all LM n (Nat.lor L (bit x.i))))
  | lt (x : OD) : x ∈ all → x.kd = 3 → readyD L x = true → lateOk L LM x all = true → NoR all L LM x → SC all LM n L (.late x.i (lookAgain L x all) (sched all LM n (Nat.lor L (bit x.i))))
theorem has_lates {l : List OD} {k : Nat} : has (lates l) k = true ↔ ∃ d ∈ l, d.kd = 3 ∧ d.i = k := by
  unfold lates
  rw [has_orL]
  constructor
  · rintro ⟨m, hm, hk⟩
    obtain ⟨d, hd, rfl⟩ := List.mem_map.1 hm
    cases h : Nat.beq d.kd 3 with
    | false => rw [h] at hk; simp [has_zero] at hk
    | true => rw [h] at hk; exact ⟨d, hd, Nat.eq_of_beq_eq_true h, by simpa [has_bit] using hk⟩
  · rintro ⟨d, hd, h, rfl⟩
    exact ⟨_, List.mem_map.2 ⟨d, hd, rfl⟩, by rw [h]; simp [has_bit]⟩
theorem has_all {l : List OD} {k : Nat} : has (allL l) k = true ↔ ∃ d ∈ l, d.i = k := by
  unfold allL
  rw [has_orL]
  constructor
  · rintro ⟨m, hm, hk⟩
    obtain ⟨d, hd, rfl⟩ := List.mem_map.1 hm
    exact ⟨d, hd, by simpa [has_bit] using hk⟩
  · rintro ⟨d, hd, rfl⟩
    exact ⟨_, List.mem_map.2 ⟨d, hd, rfl⟩, by simp [has_bit]⟩
theorem has_xor {a n k : Nat} (h : has a n = true) (hk : has a k = true) (hne : k ≠ n) : has (Nat.xor a (bit n)) k = true := by
  show Nat.testBit (a ^^^ bit n) k = true
  rw [Nat.testBit_xor, show Nat.testBit a k = true from hk, show Nat.testBit (bit n) k = false by have := has_bit n k; unfold has at this; rw [this]; simp; exact fun e => hne e.symm]
  rfl
theorem xor_le {a n k : Nat} (h : has a n = true) (hk : has (Nat.xor a (bit n)) k = true) : has a k = true := by
  have hk : Nat.testBit (a ^^^ bit n) k = true := hk
  rw [Nat.testBit_xor] at hk
  by_cases e : n = k
  · subst e; exact h
  · rw [show Nat.testBit (bit n) k = false by have := has_bit n k; unfold has at this; rw [this]; simp; exact e] at hk
    simpa [has] using hk
theorem readies_nil {all : List OD} {M L LM : Nat} {x : OD} (hLM : ∀ y ∈ all, has LM y.i = true → y.kd = 3)
    (h : readies (Nat.lor L M) all = []) (hM : ∀ k, has LM k = true → k ≠ x.i → has M k = true) (hM2 : ∀ k, has M k = true → has LM k = true) : NoR all L LM x := fun y hy hk hL hp => by
  have : y ∈ readies (Nat.lor L M) all := readies_spec.2 ⟨hy, readyD_spec.2 ⟨by
    rw [has_lor, hL]
    cases q : has M y.i with
    | false => rfl
    | true => exact absurd (hLM y hy (hM2 _ q)) hk, fun k hk => by
      rw [has_lor]
      rcases hp k hk with h | ⟨h, h'⟩
      · rw [h]; rfl
      · rw [hM k h h']; simp⟩, hk⟩
  rw [h] at this; cases this
theorem lenL_nil {α : Type} {l : List α} (h : z0 (lenL l) = true) : l = [] := by
  cases l with
  | nil => rfl
  | cons x t =>
    have h : Nat.beq (lenL (x :: t)) 0 = true := h
    have h := Nat.eq_of_beq_eq_true h
    have e : lenL (x :: t) = lenL t + 1 := by show force (lenL t) _ = _; rw [force_eq]
    rw [e] at h; omega
/-- What the next is. -/
noncomputable def schedB (all : List OD) (LM : Nat) (ih : Nat → Sc) (L : Nat) : Sc := bif Nat.beq L (allL all) then .end else
    Option.casesOn (nextTake L all all)
      (List.casesOn (readies (Nat.lor L LM) all)
        (Option.casesOn (nextLate L all) .fail fun x => bif lateOk L LM x all then .late x.i (lookAgain L x all) (ih (Nat.lor L (bit x.i))) else .fail)
        (fun x t => List.casesOn t (bif readyD L x then .do x.i (lookAgain L x all) (ih (Nat.lor L (bit x.i))) else
            Option.casesOn (nextLate L all) .fail fun x => bif lateOk L LM x all && z0 (lenL (readies (Nat.lor L (Nat.xor LM (bit x.i))) all)) then .late x.i (lookAgain L x all) (ih (Nat.lor L (bit x.i))) else .fail) (fun _ _ =>
            Option.casesOn (nextLate L all) .fail fun x => bif lateOk L LM x all && z0 (lenL (readies (Nat.lor L (Nat.xor LM (bit x.i))) all)) then .late x.i (lookAgain L x all) (ih (Nat.lor L (bit x.i))) else .fail)))
      (fun x => .take x.i (ih (Nat.lor L (bit x.i))))
theorem sched_cases {all : List OD} {n L : Nat} (hu : ∀ d ∈ all, ∀ d' ∈ all, d.i = d'.i → d = d') : sched all (lates all) (n + 1) L = .fail ∨ SC all (lates all) n L (sched all (lates all) (n + 1) L) := by
  have hLM : ∀ y ∈ all, has (lates all) y.i = true → y.kd = 3 := fun y hy h => by
    obtain ⟨d, hd, h1, h2⟩ := has_lates.1 h
    rw [hu y hy d hd h2.symm]; exact h1
  have late : ∀ {x : OD} {b : Bool} {M : Nat}, nextLate L all = some x → (b = true → lateOk L (lates all) x all = true ∧ NoR all L (lates all) x) →
      (bif b then Sc.late x.i (lookAgain L x all) (sched all (lates all) n (Nat.lor L (bit x.i))) else .fail) = .fail ∨ SC all (lates all) n L (bif b then Sc.late x.i (lookAgain L x all) (sched all (lates all) n (Nat.lor L (bit x.i))) else .fail) := fun {x b M} hx hb => by
    cases b with
    | false => exact .inl rfl
    | true =>
      obtain ⟨h1, h2⟩ := hb rfl
      obtain ⟨h3, h4, h5⟩ := nextLate_spec hx
      exact .inr (.lt x h3 h4 h5 h1 h2)
  have lateX : ∀ {x : OD}, nextLate L all = some x → (lateOk L (lates all) x all && z0 (lenL (readies (Nat.lor L (Nat.xor (lates all) (bit x.i))) all))) = true → lateOk L (lates all) x all = true ∧ NoR all L (lates all) x := fun {x} hx hb => by
    obtain ⟨h1, h2⟩ := and_of hb
    obtain ⟨h3, h4, h5⟩ := nextLate_spec hx
    have h6 : has (lates all) x.i = true := has_lates.2 ⟨x, h3, h4, rfl⟩
    exact ⟨h1, readies_nil hLM (lenL_nil h2) (fun k a b => has_xor h6 a b) (fun k a => xor_le h6 a)⟩
  have e : sched all (lates all) (n + 1) L = schedB all (lates all) (sched all (lates all) n) L := (show sched all (lates all) (n + 1) L = force L (schedB all (lates all) (sched all (lates all) n)) from rfl).trans (force_eq L _)
  rw [e]
  unfold schedB
  cases h0 : Nat.beq L (allL all) with
  | true => exact .inr (.fin (Nat.eq_of_beq_eq_true h0))
  | false =>
    rw [cond_false]
    cases h1 : nextTake L all all with
    | some x =>
      obtain ⟨a, b, c, d⟩ := nextTake_spec h1
      exact .inr (.tk x a b c d)
    | none =>
      simp only
      have lateN : (Option.casesOn (nextLate L all) .fail fun x => bif lateOk L (lates all) x all && z0 (lenL (readies (Nat.lor L (Nat.xor (lates all) (bit x.i))) all)) then .late x.i (lookAgain L x all) (sched all (lates all) n (Nat.lor L (bit x.i))) else .fail : Sc) = .fail ∨
          SC all (lates all) n L (Option.casesOn (nextLate L all) .fail fun x => bif lateOk L (lates all) x all && z0 (lenL (readies (Nat.lor L (Nat.xor (lates all) (bit x.i))) all)) then .late x.i (lookAgain L x all) (sched all (lates all) n (Nat.lor L (bit x.i))) else .fail) := by
        cases h2 : nextLate L all with
        | none => exact .inl rfl
        | some x => exact late (M := 0) h2 (lateX h2)
      cases hr : readies (Nat.lor L (lates all)) all with
      | nil =>
        simp only
        cases h2 : nextLate L all with
        | none => exact .inl rfl
        | some x => exact late (M := 0) h2 fun h3 => ⟨h3, readies_nil hLM hr (fun k a _ => a) (fun k a => a)⟩
      | cons x t =>
        cases t with
        | cons y t => exact lateN
        | nil =>
          simp only
          cases h3 : readyD L x with
          | false => exact lateN
          | true =>
            rw [cond_true]
            have hx : x ∈ readies (Nat.lor L (lates all)) all := by rw [hr]; simp
            obtain ⟨a, b, c⟩ := readies_spec.1 hx
            refine .inr (.dox x a c h3 fun y hy hk hL hp => ?_)
            have : y ∈ readies (Nat.lor L (lates all)) all := readies_spec.2 ⟨hy, readyD_spec.2 ⟨by
              rw [has_lor, hL]
              cases q : has (lates all) y.i with
              | false => rfl
              | true => exact absurd (hLM y hy q) hk, fun k hk => by
                rw [has_lor]
                rcases hp k hk with h | h <;> simp [h]⟩, hk⟩
            rw [hr] at this; simpa using this
theorem okPm_spec : ∀ {l : List OD}, okPm l = true → ∀ d ∈ l, ∀ k, has d.pm k = true → k < d.i
  | [], _, _, h, _, _ => by cases h
  | x :: l, h, d, hd, k, hk => by
    obtain ⟨h1, h2⟩ := and_of (show (Nat.blt x.pm (bit x.i) && okPm l) = true from h)
    rcases List.mem_cons.1 hd with rfl | hd
    · have h1 : d.pm < 1 <<< d.i := by simpa [Nat.blt_eq, bit] using h1
      rw [Nat.one_shiftLeft] at h1
      have h3 := Nat.ge_two_pow_of_testBit (show Nat.testBit d.pm k = true from hk)
      exact (Nat.pow_lt_pow_iff_right (by omega)).1 (Nat.lt_of_le_of_lt h3 h1)
    · exact okPm_spec h2 d hd k hk
end
end Go.Ev
end

section
open Go
namespace Go.Ev
section
variable {P : Program} {ops : Array Oper} {nt : Nat} {c : CallF} {all : List OD} {αF : T AV} {hF : Hp} {nF : Pa}
theorem badR_no {α : T AV} {h : Hp} {nx : Pa} (e : evR c badR α h nx = .nx αF hF nF) : False := by
  have e : (Rv.casesOn (evS c noS α h nx) (fun n => Rc.bad n) fun v h nx => List.casesOn ([] : List IS) (evR c .nil (putD noS.dst v α) h nx) fun _ _ => bif again [] (putD noS.dst v α) h nx then evR c .nil (putD noS.dst v α) h nx else .bad 66 : Rc) = .nx αF hF nF := (evR_step c noS [] .nil α h nx).symm.trans e
  have e1 : evS c noS α h nx = .bad 99 := rfl
  rw [e1] at e; cases e
theorem nthO_some {i : Nat} {s : IS} (h : nthO P nt ops i = s) (hs : s ≠ noS) : ∃ o, ops[i]? = some o ∧ cS P nt ops o = s := by
  unfold nthO at h
  split at h
  · rename_i o ho; exact ⟨o, ho, h⟩
  · exact absurd h.symm hs
/-- What is looked at again. -/
def AG (P : Program) (nt : Nat) (ops : Array Oper) (all : List OD) (L : Nat) (x : OD) (α : T AV) (h : Hp) (nx : Pa) : Prop := lookAgain L x all = [] ∨ again ((lookAgain L x all).map (nthO P nt ops)) α h nx = true
structure Nx (P : Program) (nt : Nat) (ops : Array Oper) (c : CallF) (all : List OD) (m L : Nat) (α : T AV) (h : Hp) (nx : Pa) (αF : T AV) (hF : Hp) (nF : Pa) (x : OD) (o : Oper) (av : AV) (h1 : Hp) (n1 : Pa) : Prop where
  mem : x ∈ all
  at' : ops[x.i]? = some o
  rdy : readyD L x = true
  ev : evS c (cS P nt ops o) α h nx = .ok av h1 n1
  rest : evR c (cSc P nt ops (sched all (lates all) m (Nat.lor L (bit x.i)))) (putD (o.dst.map path) av α) h1 n1 = .nx αF hF nF
  kind : (x.kd ≤ 1 ∧ takeOk L x all = true) ∨
    (x.kd ≠ 3 ∧ AG P nt ops all L x (putD (o.dst.map path) av α) h1 n1 ∧ ∀ y ∈ all, y.kd ≠ 3 → has L y.i = false → (∀ k, has y.pm k = true → has L k = true ∨ has (lates all) k = true) → y = x) ∨
    (x.kd = 3 ∧ AG P nt ops all L x (putD (o.dst.map path) av α) h1 n1 ∧ lateOk L (lates all) x all = true ∧ NoR all L (lates all) x)
theorem sched_step (hA : ODs P ops ops.size all) : ∀ {n L : Nat} {α : T AV} {h : Hp} {nx : Pa}, evR c (cSc P nt ops (sched all (lates all) n L)) α h nx = .nx αF hF nF →
    (L = allL all ∧ α = αF ∧ h = hF ∧ nx = nF) ∨ ∃ m x o av h1 n1, n = m + 1 ∧ Nx P nt ops c all m L α h nx αF hF nF x o av h1 n1
  | 0, L, α, h, nx, e => (badR_no e).elim
  | n + 1, L, α, h, nx, e => by
    have main : ∀ (x : OD) (ag : List IS), x ∈ all → evR c (.cons (nthO P nt ops x.i) ag (cSc P nt ops (sched all (lates all) n (Nat.lor L (bit x.i))))) α h nx = .nx αF hF nF →
        ∃ o av h1 n1, ops[x.i]? = some o ∧ evS c (cS P nt ops o) α h nx = .ok av h1 n1 ∧ evR c (cSc P nt ops (sched all (lates all) n (Nat.lor L (bit x.i)))) (putD (o.dst.map path) av α) h1 n1 = .nx αF hF nF ∧
          (ag = [] ∨ again ag (putD (o.dst.map path) av α) h1 n1 = true) := fun x ag hx e => by
      obtain ⟨av, h1, n1, e1, e2, e3⟩ := evR_cons e
      obtain ⟨o, ho, _⟩ := (hA.ok x hx).ex
      have hn : nthO P nt ops x.i = cS P nt ops o := by unfold nthO; rw [ho]
      rw [hn] at e1 e2 e3
      rw [cS_dst] at e2 e3
      exact ⟨o, av, h1, n1, ho, e1, e3, e2⟩
    rcases sched_cases (n := n) (L := L) hA.uniq with h0 | h0
    · rw [h0] at e; exact (badR_no e).elim
    · revert e
      generalize sched all (lates all) (n + 1) L = s at h0
      intro e
      cases h0 with
      | fin hL =>
        have e : Rc.nx α h nx = .nx αF hF nF := e
        cases e; exact .inl ⟨hL, rfl, rfl, rfl⟩
      | tk x hx hk hr ht =>
        obtain ⟨o, av, h1, n1, a, b, d, _⟩ := main x [] hx e
        exact .inr ⟨n, x, o, av, h1, n1, rfl, hx, a, hr, b, d, .inl ⟨hk, ht⟩⟩
      | dox x hx hk hr ht =>
        obtain ⟨o, av, h1, n1, a, b, d, g⟩ := main x ((lookAgain L x all).map (nthO P nt ops)) hx e
        exact .inr ⟨n, x, o, av, h1, n1, rfl, hx, a, hr, b, d, .inr (.inl ⟨hk, g.imp (fun q => by simpa using q) id, ht⟩)⟩
      | lt x hx hk hr hl ht =>
        obtain ⟨o, av, h1, n1, a, b, d, g⟩ := main x ((lookAgain L x all).map (nthO P nt ops)) hx e
        exact .inr ⟨n, x, o, av, h1, n1, rfl, hx, a, hr, b, d, .inr (.inr ⟨hk, g.imp (fun q => by simpa using q) id, hl, ht⟩)⟩
theorem again_spec {α : T AV} {h : Hp} {nx : Pa} : ∀ {l : List IS}, again l α h nx = true → ∀ s ∈ l, ∃ v h' n' p u, evS noCall s α h nx = .ok v h' n' ∧ s.dst = some p ∧ getP p α = some u ∧ eqA v u = true
  | [], _, _, hs => by cases hs
  | x :: l, e, s, hs => by
    have e : (match evS noCall x α h nx, (Option.casesOn x.dst none fun p => getP p α : Option AV) with
      | .ok v _ _, some u => bif eqA v u then again l α h nx else false
      | _, _ => false) = true := e
    cases e1 : evS noCall x α h nx with
    | bad k => rw [e1] at e; simp only at e; cases e
    | ok v h' n' =>
      cases e2 : (Option.casesOn x.dst none fun p => getP p α : Option AV) with
      | none => rw [e1, e2] at e; simp only at e; cases e
      | some u =>
        rw [e1, e2] at e
        have e : (bif eqA v u then again l α h nx else false) = true := e
        cases e3 : eqA v u with
        | false => rw [e3] at e; cases e
        | true =>
          rw [e3] at e
          rcases List.mem_cons.1 hs with rfl | hs
          · cases e4 : s.dst with
            | none => rw [e4] at e2; cases e2
            | some p => rw [e4] at e2; exact ⟨v, h', n', p, u, e1, rfl, e2, e3⟩
          · exact again_spec (show again l α h nx = true from e) s hs
theorem OD_eq (hA : ODs P ops ops.size all) {x : OD} {o : Oper} (hx : x ∈ all) (ho : ops[x.i]? = some o) : x.pm = edgeM o ∧ x.lk = lookM ops o ∧ x.dm = dstM o ∧ x.kd = kdOf o.guard.isNone (cO P o) := by
  obtain ⟨o', ho', h⟩ := (hA.ok x hx).ex
  rw [ho] at ho'; cases ho'; exact h
theorem OD_apart (hA : ODs P ops ops.size all) {x y : OD} {o q : Oper} (hx : x ∈ all) (hy : y ∈ all) (ho : ops[x.i]? = some o) (hq : ops[y.i]? = some q) (h : apartD x y = true) : Apart ops o q :=
  apartD_ok ⟨(OD_eq hA hx ho).2.1, (OD_eq hA hx ho).2.2.1⟩ ⟨(OD_eq hA hy hq).2.1, (OD_eq hA hy hq).2.2.1⟩ h
theorem put_get {o : Oper} {av : AV} {α : T AV} {t : Nat} (h : o.dst ≠ some t) : getP (path t) (putD (o.dst.map path) av α) = getP (path t) α := by
  cases hd : o.dst with
  | none => rfl
  | some d => exact get_set_ne _ _ _ _ (fun e => h (by rw [hd, path_inj e]))
theorem put_got {o : Oper} {av : AV} {α : T AV} {t : Nat} (h : o.dst = some t) : getP (path t) (putD (o.dst.map path) av α) = some av := by rw [h]; exact get_set _ _ _
theorem has_add {L i k : Nat} : has (Nat.lor L (bit i)) k = true ↔ has L k = true ∨ i = k := by rw [has_lor, has_bit]; simp
theorem has_addF {L i k : Nat} (h : has L k = false) (hne : i ≠ k) : has (Nat.lor L (bit i)) k = false := by rw [has_lor, has_bit, h]; simp [hne]
/-- What floats will come up, and what its value will be. -/
def FUT (P : Program) (nt : Nat) (ops : Array Oper) (c : CallF) (all : List OD) (L : Nat) (α : T AV) (z : OD) (o : Oper) : Prop :=
  ∃ (Lz : Nat) (αf : T AV) (hf : Hp) (nf : Pa) (av : AV) (h' : Hp) (n' : Pa), (∀ k, has L k = true → has Lz k = true) ∧ lateOk Lz (lates all) z all = true ∧ evS c (cS P nt ops o) αf hf nf = .ok av h' n' ∧
    ((∀ k, has z.am k = true → has L k = true) → ∀ t ∈ o.looksAt ops, getP (path t) αf = getP (path t) α)
theorem fut (hA : ODs P ops ops.size all) {z : OD} (hz : z ∈ all) {o : Oper} (ho : ops[z.i]? = some o) (hk : z.kd = 3) : ∀ {n L : Nat} {α : T AV} {h : Hp} {nx : Pa}, evR c (cSc P nt ops (sched all (lates all) n L)) α h nx = .nx αF hF nF →
    has L z.i = false → FUT P nt ops c all L α z o := by
  intro n
  induction n with
  | zero => intro L α h nx e; exact (badR_no e).elim
  | succ n ih =>
    intro L α h nx e hL
    rcases sched_step hA e with ⟨h0, _⟩ | ⟨m, x, q, av, h1, n1, hm, X⟩
    · rw [h0] at hL; rw [has_all.2 ⟨z, hz, rfl⟩] at hL; cases hL
    · cases hm
      by_cases hx : x.i = z.i
      · have := hA.uniq x X.mem z hz hx
        subst this
        have := X.at'; rw [ho] at this; cases this
        rcases X.kind with ⟨a, _⟩ | ⟨a, _⟩ | ⟨_, _, a, _⟩
        · omega
        · exact absurd hk a
        · exact ⟨L, α, h, nx, av, h1, n1, fun _ h => h, a, X.ev, fun _ _ _ => rfl⟩
      · obtain ⟨Lz, αf, hf, nf, av', h', n', a, b, d, g⟩ := ih X.rest (has_addF hL hx)
        refine ⟨Lz, αf, hf, nf, av', h', n', fun k hk => a k (has_add.2 (.inl hk)), b, d, fun hp t ht => ?_⟩
        rw [g (fun k hk => has_add.2 (.inl (hp k hk))) t ht]
        refine put_get fun hd => ?_
        have hxL := (readyD_spec.1 X.rdy).1
        rcases (lateOk_spec b).2 x X.mem hx (a _ (has_add.2 (.inr rfl))) with h2 | h2
        · rw [hp _ h2] at hxL; cases hxL
        · exact (OD_apart hA hz X.mem ho X.at' h2).2.2 t hd ht
/-- Two of them. -/
theorem fut2 (hA : ODs P ops ops.size all) {z z' : OD} (hz : z ∈ all) (hz' : z' ∈ all) (hk : z.kd = 3) (hk' : z'.kd = 3) (hne : z.i ≠ z'.i) : ∀ {n L : Nat} {α : T AV} {h : Hp} {nx : Pa}, evR c (cSc P nt ops (sched all (lates all) n L)) α h nx = .nx αF hF nF →
    has L z.i = false → has L z'.i = false → apartD z z' = true ∨ apartD z' z = true := by
  obtain ⟨o, ho, _⟩ := (hA.ok z hz).ex
  obtain ⟨o', ho', _⟩ := (hA.ok z' hz').ex
  have aux : ∀ {z z' : OD} {L : Nat}, z ∈ all → z.kd = 3 → z.i ≠ z'.i → has L z.i = true → lateOk L (lates all) z' all = true → apartD z' z = true := fun {z z' L} hz hk hne hL hl => by
    rcases (lateOk_spec hl).2 z hz hne hL with h | h
    · exact (z0_land (lateOk_spec hl).1 h (has_lates.2 ⟨z, hz, hk, rfl⟩)).elim
    · exact h
  intro n
  induction n with
  | zero => intro L α h nx e; exact (badR_no e).elim
  | succ n ih =>
    intro L α h nx e hL hL'
    rcases sched_step hA e with ⟨h0, _⟩ | ⟨m, x, q, av, h1, n1, hm, X⟩
    · rw [h0] at hL; rw [has_all.2 ⟨z, hz, rfl⟩] at hL; cases hL
    · cases hm
      by_cases hx : x.i = z.i
      · obtain ⟨Lz, _, _, _, _, _, _, a, b, _⟩ := fut hA hz' ho' hk' X.rest (has_addF hL' (by rw [hx]; exact hne))
        exact .inr (aux hz hk hne (a _ (has_add.2 (.inr hx))) b)
      · by_cases hx' : x.i = z'.i
        · obtain ⟨Lz, _, _, _, _, _, _, a, b, _⟩ := fut hA hz ho hk X.rest (has_addF hL hx)
          exact .inl (aux hz' hk' (Ne.symm hne) (a _ (has_add.2 (.inr hx'))) b)
        · exact ih X.rest (has_addF hL hx) (has_addF hL' hx')
end
end Go.Ev
end

section
open Go
namespace Go.Ev
section
variable {P : Program} {ops : Array Oper} {nt : Nat} {c : CallF} {all : List OD}
/-! ### what the kinds say -/
theorem cS_op (o : Oper) : (cS P nt ops o).op = cO P o ∨ (cS P nt ops o).op = .bad := by
  have h : cDst P nt o = cO P o ∨ cDst P nt o = .bad := by
    unfold cDst
    cases o.dst with
    | none => exact .inl rfl
    | some d => simp only; cases Nat.blt d nt <;> simp
  unfold cS
  cases o.guard with
  | none => exact h
  | some g => simp only; cases (ops[g.1]?).bind (·.dst) with
    | none => exact .inr rfl
    | some d => exact h
theorem kd_take {g : Bool} {o : IOp} (h : kdOf g o ≤ 1) : isTake o = true := by
  unfold kdOf at h
  cases h1 : isTake o with
  | true => rfl
  | false => rw [h1] at h; cases h2 : (isLate o && g) <;> (rw [h2] at h; simp at h)
theorem kd_pure {g : Bool} {o : IOp} (h : kdOf g o = 0) : isTake o = true ∧ isWorld o = false := by
  have h1 := kd_take (show kdOf g o ≤ 1 by omega)
  refine ⟨h1, ?_⟩
  unfold kdOf at h
  rw [h1] at h
  cases h2 : isWorld o with
  | false => rfl
  | true => rw [h2] at h; simp at h
theorem kd_late {g : Bool} {o : IOp} (h : kdOf g o = 3) : isLate o = true ∧ g = true := by
  unfold kdOf at h
  cases h1 : isTake o with
  | true => rw [h1] at h; cases h2 : isWorld o <;> (rw [h2] at h; simp at h)
  | false => rw [h1] at h; cases h2 : isLate o <;> cases g <;> (rw [h2] at h; simp at h) <;> exact ⟨rfl, rfl⟩
theorem evS_eq {s : IS} {α : T AV} {h h' : Hp} {nx nx' : Pa} {av : AV} (e : evS c s α h nx = .ok av h' nx') : (wantS s.g α = some true ∧ evI c s.op α h nx = .ok av h' nx') ∨ (wantS s.g α = some false ∧ av = .tp .nl ∧ h' = h ∧ nx' = nx) := by
  rw [evS_def] at e
  cases e1 : wantS s.g α with
  | none => rw [e1] at e; cases e
  | some b =>
    rw [e1] at e
    rcases bif_some e with ⟨rfl, e⟩ | ⟨rfl, e⟩
    · exact .inl ⟨rfl, e⟩
    · obtain ⟨rfl, rfl, rfl⟩ := ok3 e; exact .inr ⟨rfl, rfl, rfl, rfl⟩
theorem evS_want {s : IS} {α : T AV} {h : Hp} {nx : Pa} (e : wantS s.g α = some true) : evS c s α h nx = evI c s.op α h nx := by rw [evS_def, e]; rfl
theorem evS_not {s : IS} {α : T AV} {h : Hp} {nx : Pa} (e : wantS s.g α = some false) : evS c s α h nx = .ok (.tp .nl) h nx := by rw [evS_def, e]; rfl
theorem op_take {o : Oper} (h : isTake (cO P o) = true) {α : T AV} {h0 h' : Hp} {nx nx' : Pa} {av : AV} (e : evI c (cS P nt ops o).op α h0 nx = .ok av h' nx') : (cS P nt ops o).op = cO P o := by
  rcases cS_op (P := P) (nt := nt) (ops := ops) o with h1 | h1
  · exact h1
  · rw [h1] at e; cases e
theorem take_keep {o : Oper} (ht : isTake (cO P o) = true) {α : T AV} {h h' : Hp} {nx nx' : Pa} {av : AV} (e : evS c (cS P nt ops o) α h nx = .ok av h' nx') : h' = h ∧ nx' = nx := by
  rcases evS_eq e with ⟨_, e⟩ | ⟨_, _, h1, h2⟩
  · have := op_take ht e; rw [this] at e; exact (take_ok ht c).1 _ _ _ _ _ _ e
  · exact ⟨h1, h2⟩
theorem take_call {o : Oper} (ht : isTake (cO P o) = true) {α : T AV} {h h' : Hp} {nx nx' : Pa} {av : AV} (e : evS noCall (cS P nt ops o) α h nx = .ok av h' nx') : evS c (cS P nt ops o) α h nx = .ok av h' nx' := by
  rcases evS_eq e with ⟨h0, e⟩ | ⟨h0, h1, h2, h3⟩
  · have := op_take ht e; rw [evS_want h0, this, (take_ok ht c).2.2]; rw [this] at e; exact e
  · rw [evS_not h0, h1, h2, h3]
theorem take_pure {o : Oper} (ht : isTake (cO P o) = true ∧ isWorld (cO P o) = false) {α : T AV} {h h' : Hp} {nx nx' : Pa} {av : AV} (e : evS c (cS P nt ops o) α h nx = .ok av h' nx') (h2 : Hp) (n2 : Pa) : evS c (cS P nt ops o) α h2 n2 = .ok av h2 n2 := by
  rcases evS_eq e with ⟨h0, e⟩ | ⟨h0, rfl, _, _⟩
  · have := op_take ht.1 e; rw [evS_want h0, this]; rw [this] at e; exact ((take_ok ht.1 c).2.1 ht.2 _ _ _ _ _ _ e).2.2 h2 n2
  · exact evS_not h0
/-- What floats: never held back; its place is there; what it leaves. -/
theorem late_ev {o : Oper} (hl : isLate (cO P o) = true) (hg : o.guard.isNone = true) {α : T AV} {h h' : Hp} {nx nx' : Pa} {av : AV} (e : evS c (cS P nt ops o) α h nx = .ok av h' nx') :
    o.guard = none ∧ (∀ d, o.dst = some d → d < nt) ∧ ∃ (b : Blk) (mk : Pa → AV), b.own = true ∧ (∀ h' n', evI c (cO P o) α h' n' = .ok (mk n') (setP (some b) n' h') n'.succ) ∧ av = mk nx ∧ h' = setP (some b) nx h ∧ nx' = nx.succ := by
  have hg : o.guard = none := by cases h : o.guard with | none => rfl | some g => rw [h] at hg; cases hg
  have h1 : cS P nt ops o = ⟨none, o.dst.map path, cDst P nt o⟩ := by unfold cS; rw [hg]
  rw [h1] at e
  replace e : evI c (cDst P nt o) α h nx = .ok av h' nx' := by rw [evS_def] at e; exact e
  have h2 : cDst P nt o = cO P o ∧ ∀ d, o.dst = some d → d < nt := by
    unfold cDst at e ⊢
    cases hd : o.dst with
    | none => exact ⟨rfl, fun d q => by cases q⟩
    | some d =>
      rw [hd] at e
      simp only at e ⊢
      cases hb : Nat.blt d nt with
      | false => rw [hb] at e; cases e
      | true => exact ⟨rfl, fun d' q => by cases q; simpa using hb⟩
  rw [h2.1] at e
  obtain ⟨b, mk, h3, h4⟩ := late_ok hl c e
  rw [h4] at e
  obtain ⟨h5, h6, h7⟩ := ok3 e
  exact ⟨hg, h2.2, b, mk, h3, h4, h7, h5, h6⟩
theorem late_nocall {o : Oper} (hl : isLate (cO P o) = true) : OpOk P o (evI c (cO P o)) := by
  rcases cO_ok (P := P) o c with h | ⟨cl, x, h1, h2⟩
  · exact h
  · exfalso
    unfold cO at hl
    rw [h1] at hl
    simp only [h2] at hl
    cases x <;> cases hl
theorem Yld.det {o : Oper} {a : Act} {w w1 w2 : World} {v1 v2 : Value} (h1 : Yld P o a w v1 w1) (h2 : Yld P o a w v2 w2) : v1 = v2 ∧ w1 = w2 := by
  unfold Yld at h1 h2
  rcases h1 with h1 | ⟨h1, e1⟩ <;> rcases h2 with h2 | ⟨h2, e2⟩ <;> rw [h1] at h2 <;> cases h2
  · exact ⟨rfl, rfl⟩
  · exact ⟨e1.trans e2.symm, rfl⟩
theorem Yld.wp {o : Oper} {a : Act} {w w1 : World} {v : Value} (h1 : Yld P o a w v w1) {K : Act → World → Prop} {Q : Exit → Act → World → Prop} (h : K (a.put o.dst v) w1) : o.wp P a w K Q := by
  show o.upon P a K Q _
  rcases h1 with h1 | ⟨h1, rfl⟩ <;> (rw [h1]; exact h)
/-- What is made anew where it owns nothing. -/
theorem late_run {o : Oper} (hl : isLate (cO P o) = true) {ρ : Ren} {α : T AV} {h : Hp} {nx : Pa} {a : Act} {w w0 : World} {b : Blk} {mk : Pa → AV} (H : HR ρ h nx w0) (hL : LR ρ α a.tmps ops o) (he : ∀ h' n', evI c (cO P o) α h' n' = .ok (mk n') (setP (some b) n' h') n'.succ) :
    ∃ ρ' v w' g t, Yld P o a w v w' ∧ V ρ' (mk nx) v ∧ ρ' nx = some (g, t) ∧ BR ρ' b g t w' ∧ w.heap.size ≤ g ∧ g < w'.heap.size ∧ Ext ρ ρ' ∧ (∀ id p, ρ' id = some p → toN id < toN nx.succ) ∧ w'.os = w.os ∧ w'.tape = w.tape ∧ w'.output = w.output ∧ w.heap.size ≤ w'.heap.size ∧ ∀ k, k < w.heap.size → w'.heap[k]? = w.heap[k]? := by
  have H0 : HR ρ .lf nx w := ⟨H.dom, fun id b e => (by rw [getP_lf] at e; cases e), fun id id' b b' g t t' e => (by rw [getP_lf] at e; cases e)⟩
  have hno : ∀ k, ¬ Live ρ .lf k := fun k ⟨id, b, t, e, _⟩ => by rw [getP_lf] at e; cases e
  obtain ⟨ρ', v, w', h1, h2, h3, h4⟩ := late_nocall hl ρ α .lf nx a w _ _ _ H0 hL.xr (he .lf nx)
  obtain ⟨g, t, h5, h6⟩ := h3.blk nx b (get_set _ _ _)
  refine ⟨ρ', v, w', g, t, h1, h2, h5, h6, ?_, h6.lt, h4.ext, h3.dom, h4.os, h4.tape, h4.output, h4.size, fun k hk => h4.keep k hk fun ⟨id, b, t, e, _⟩ => by rw [getP_lf] at e; cases e⟩
  exact (h4.live g ⟨nx, b, t, get_set _ _ _, h5⟩).resolve_left (hno g)
/-! ### what has come up -/
def Ls (l : Array Bool) (i : Nat) : Prop := l.getD i false = true
theorem Ls_set {l : Array Bool} {i j : Nat} (h : i < l.size) : Ls (l.setIfInBounds i true) j ↔ Ls l j ∨ i = j := by
  unfold Ls
  by_cases hij : i = j
  · subst hij; simp [h]
  · rw [getD_set_ne false hij]; simp [hij]
theorem Ls_lt {l : Array Bool} {i : Nat} (h : Ls l i) : i < l.size := by
  unfold Ls at h
  rcases Nat.lt_or_ge i l.size with h' | h'
  · exact h'
  · simp [Array.getElem?_eq_none h'] at h
theorem Ls_not {l : Array Bool} {i : Nat} (hi : i < l.size) : l.getD i true = false ↔ ¬ Ls l i := by
  unfold Ls
  simp [hi]
def Edges (l : Array Bool) (o : Oper) : Prop := ∀ e ∈ o.after, Region.binds .any e = true → Ls l e.on
def Closed (ops : Array Oper) (l : Array Bool) : Prop := ∀ i o, Ls l i → ops[i]? = some o → Edges l o
theorem anc_ls {l : Array Bool} (hc : Closed ops l) {k i : Nat} (h : Anc ops k i) : ∀ {o}, ops[i]? = some o → Edges l o → Ls l k := by
  induction h with
  | one ho he hb => intro o' ho' hE; rw [ho] at ho'; cases ho'; exact hE _ he hb
  | step h ho he hb hj ih =>
    intro o' ho' hE
    rw [ho] at ho'; cases ho'
    have hj' := hE _ he hb
    rw [hj] at hj'
    cases h with
    | one h1 h2 h3 => exact hc _ _ hj' h1 _ h2 h3
    | step h0 h1 h2 h3 h4 => exact ih h1 (hc _ _ hj' h1)
theorem am_ls (hA : ODs P ops ops.size all) {l : Array Bool} (hc : Closed ops l) {d : OD} (hd : d ∈ all) {o : Oper} (ho : ops[d.i]? = some o) (hE : Edges l o) {k : Nat} (h : has d.am k = true) : Ls l k := anc_ls hc ((hA.ok d hd).anc k h) ho hE
/-- What has floated up, and is not yet in the schedule. -/
def ZRec (P : Program) (ops : Array Oper) (o : Oper) (ρ : Ren) (α : T AV) (h : Hp) (a : Act) (w : World) (lo hi : Nat) : Prop :=
  ∃ a' w1 w2 v, Yld P o a' w1 v w2 ∧ LR ρ α a'.tmps ops o ∧ w1.heap.size = lo ∧ w2.heap.size = hi ∧ hi ≤ w.heap.size ∧ (∀ g, lo ≤ g → g < hi → w.heap[g]? = w2.heap[g]? ∧ ¬ Live ρ h g) ∧ ∀ d, o.dst = some d → a.tmps.getD d undef = v
/-- Either in the schedule or come up, not both. -/
def Odd (L : Nat) (l : Array Bool) (i : Nat) : Prop := (Ls l i ∧ has L i = false) ∨ (¬ Ls l i ∧ has L i = true)
structure Inv (P : Program) (nt : Nat) (ops : Array Oper) (c : CallF) (all : List OD) (ρ0 : Ren) (h0 : Hp) (a0 : Act) (w0 : World) (L : Nat) (l : Array Bool) (a : Act) (w : World) (α : T AV) (h : Hp) (nx : Pa) (ρ : Ren) (lo hi : Nat → Nat) : Prop where
  size : l.size = ops.size
  cl : Closed ops l
  zk : ∀ d ∈ all, Ls l d.i → has L d.i = false → d.kd = 3
  yk : ∀ d ∈ all, ¬ Ls l d.i → has L d.i = true → d.kd ≤ 1
  yc : ∀ d ∈ all, ∀ o, ops[d.i]? = some o → ¬ Ls l d.i → has L d.i = true → ∃ α' av, evS c (cS P nt ops o) α' h nx = .ok av h nx ∧ (∀ t ∈ o.looksAt ops, getP (path t) α' = getP (path t) α) ∧ ∀ t, o.dst = some t → ∃ u, getP (path t) α = some u ∧ ∀ ρ v, V ρ av v → V ρ u v
  ys : ∀ d ∈ all, ∀ o, ops[d.i]? = some o → ¬ Ls l d.i → has L d.i = true → ∀ t, o.dst = some t → t ∉ o.looksAt ops
  yb : ∀ e ∈ all, ¬ Ls l e.i → has L e.i = true → ∀ d ∈ all, has L d.i = false → apartD e d = true ∨ has d.am e.i = true
  yy : ∀ e ∈ all, ¬ Ls l e.i → has L e.i = true → ∀ d ∈ all, ¬ Ls l d.i → has L d.i = true → d.i ≠ e.i → z0 (Nat.land e.dm d.lk) = true ∨ has d.am e.i = true
  zc : ∀ z ∈ all, ∀ o, ops[z.i]? = some o → Ls l z.i → has L z.i = false → ZRec P ops o ρ α h a w (lo z.i) (hi z.i) ∧ w0.heap.size ≤ lo z.i
  zd : ∀ z ∈ all, ∀ z' ∈ all, Ls l z.i → has L z.i = false → Ls l z'.i → has L z'.i = false → z.i ≠ z'.i → hi z.i ≤ lo z'.i ∨ hi z'.i ≤ lo z.i
  tr : ∀ t v, getP (path t) α = some v → (∀ d ∈ all, ∀ o, ops[d.i]? = some o → Odd L l d.i → o.dst ≠ some t) → V ρ v (a.tmps.getD t undef)
  H : HR ρ h nx w
  S : Stp ρ0 h0 w0 ρ h w
  nt : nt ≤ a.tmps.size
  sz : a.tmps.size = a0.tmps.size
  df : a.defers = a0.defers
end
end Go.Ev
end

section
open Go
namespace Go.Ev
section
variable {P : Program} {ops : Array Oper} {nt : Nat} {c : CallF} {all : List OD} {ρ0 : Ren} {h0 : Hp} {a0 : Act} {w0 : World} {αF : T AV} {hF : Hp} {nF : Pa}
theorem nl_ok (hA : ODs P ops ops.size all) {e d : OD} {q o : Oper} (he : e ∈ all) (hd : d ∈ all) (hq : ops[e.i]? = some q) (ho : ops[d.i]? = some o) (h : z0 (Nat.land e.dm d.lk) = true) : ∀ t, q.dst = some t → t ∉ o.looksAt ops := fun t hd' ht => by
  rw [(OD_eq hA he hq).2.2.1, (OD_eq hA hd ho).2.1] at h
  exact z0_land h (has_dst hd') (has_look ht)
theorem nd_ok (hA : ODs P ops ops.size all) {e d : OD} {q o : Oper} (he : e ∈ all) (hd : d ∈ all) (hq : ops[e.i]? = some q) (ho : ops[d.i]? = some o) (h : z0 (Nat.land e.dm d.dm) = true) : ∀ t, q.dst = some t → o.dst ≠ some t := fun t hd' ht => by
  rw [(OD_eq hA he hq).2.2.1, (OD_eq hA hd ho).2.2.1] at h
  exact z0_land h (has_dst hd') (has_dst ht)
theorem apart_nl {x y : OD} (h : apartD x y = true) : z0 (Nat.land x.dm y.lk) = true := (and3 h).1
theorem kdTake (hA : ODs P ops ops.size all) {d : OD} {o : Oper} (hd : d ∈ all) (ho : ops[d.i]? = some o) (h : d.kd ≤ 1) : isTake (cO P o) = true := kd_take (by rw [← (OD_eq hA hd ho).2.2.2]; exact h)
theorem kdPure (hA : ODs P ops ops.size all) {d : OD} {o : Oper} (hd : d ∈ all) (ho : ops[d.i]? = some o) (h : d.kd = 0) : isTake (cO P o) = true ∧ isWorld (cO P o) = false := kd_pure (by rw [← (OD_eq hA hd ho).2.2.2]; exact h)
theorem kdLate (hA : ODs P ops ops.size all) {d : OD} {o : Oper} (hd : d ∈ all) (ho : ops[d.i]? = some o) (h : d.kd = 3) : isLate (cO P o) = true ∧ o.guard.isNone = true := kd_late (by rw [← (OD_eq hA hd ho).2.2.2]; exact h)
theorem LR.agree {ρ : Ren} {α β : T AV} {tmps : Array Value} {o : Oper} (k : LR ρ α tmps ops o) (h : ∀ t ∈ o.looksAt ops, getP (path t) β = getP (path t) α) : LR ρ β tmps ops o := fun t ht v e => k t ht v (by rw [← h t ht]; exact e)
theorem LR.mono {ρ ρ' : Ren} (h : Ext ρ ρ') {α : T AV} {tmps : Array Value} {o : Oper} (k : LR ρ α tmps ops o) : LR ρ' α tmps ops o := fun t ht v e => V_mono h (k t ht v e)
theorem Odd_add {L i j : Nat} {l : Array Bool} (h : j ≠ i) : Odd (Nat.lor L (bit i)) l j ↔ Odd L l j := by
  unfold Odd
  rw [has_lor, has_bit]
  simp [Ne.symm h]
/-- One that may be taken at once. -/
theorem Inv.take (hA : ODs P ops ops.size all) {m L : Nat} {l : Array Bool} {a : Act} {w : World} {α : T AV} {h h1 : Hp} {nx n1 : Pa} {ρ : Ren} {lo hi : Nat → Nat} {x : OD} {o : Oper} {av : AV}
    (I : Inv P nt ops c all ρ0 h0 a0 w0 L l a w α h nx ρ lo hi) (X : Nx P nt ops c all m L α h nx αF hF nF x o av h1 n1) (hk : x.kd ≤ 1) (ht : takeOk L x all = true) :
    Inv P nt ops c all ρ0 h0 a0 w0 (Nat.lor L (bit x.i)) l a w (putD (o.dst.map path) av α) h1 n1 ρ lo hi := by
  have hxL := (readyD_spec.1 X.rdy).1
  have hxl : ¬ Ls l x.i := fun q => by have := I.zk x X.mem q hxL; omega
  obtain ⟨rfl, rfl⟩ := take_keep (kdTake hA X.mem X.at' hk) X.ev
  obtain ⟨t1, t2⟩ := takeOk_spec ht
  have self : ∀ t, o.dst = some t → t ∉ o.looksAt ops := nl_ok hA X.mem X.mem X.at' X.at' t1
  have split : ∀ {j : Nat}, has (Nat.lor L (bit x.i)) j = true → has L j = true ∨ x.i = j := fun q => has_add.1 q
  have hF : ∀ {j : Nat}, has (Nat.lor L (bit x.i)) j = false → has L j = false ∧ x.i ≠ j := fun {j} q => by
    refine ⟨?_, fun e => ?_⟩
    · cases r : has L j with
      | false => rfl
      | true => rw [has_add.2 (.inl r)] at q; cases q
    · rw [has_add.2 (.inr e)] at q; cases q
  have sub : ∀ {d : OD}, d ∈ all → x.i = d.i → d = x := fun hd e => (hA.uniq x X.mem _ hd e).symm
  refine ⟨I.size, I.cl, fun d hd h1 h2 => I.zk d hd h1 (hF h2).1, fun d hd h1 h2 => ?_, fun d hd q hq h1 h2 => ?_, fun d hd q hq h1 h2 => ?_, fun e he h1 h2 d hd h3 => ?_, fun e he h1 h2 d hd h3 h4 h5 => ?_, fun z hz q hq h1 h2 => ?_,
    fun z hz z' hz' h1 h2 h3 h4 h5 => I.zd z hz z' hz' h1 (hF h2).1 h3 (hF h4).1 h5, fun t v e hn => ?_, I.H, I.S, I.nt, I.sz, I.df⟩
  · rcases split h2 with h2 | h2
    · exact I.yk d hd h1 h2
    · rw [sub hd h2]; exact hk
  · by_cases hd' : x.i = d.i
    · have := sub hd hd'; subst this
      have := X.at'; rw [hq] at this; cases this
      exact ⟨α, av, X.ev, fun t ht => (put_get (fun e => self t e ht)).symm, fun t e => ⟨av, put_got e, fun _ _ h => h⟩⟩
    · have h2 := (split h2).resolve_right hd'
      obtain ⟨k1, k2⟩ := (t2 d hd (Ne.symm hd')).1 h2
      obtain ⟨α', av', q1, q2, q3⟩ := I.yc d hd q hq h1 h2
      refine ⟨α', av', q1, fun t ht => ?_, fun t e => ?_⟩
      · rw [put_get (fun e => nl_ok hA X.mem hd X.at' hq k1 t e ht)]; exact q2 t ht
      · rw [put_get (fun e' => nd_ok hA X.mem hd X.at' hq k2 t e' e)]; exact q3 t e
  · by_cases hd' : x.i = d.i
    · have := sub hd hd'; subst this
      have := X.at'; rw [hq] at this; cases this
      exact self
    · exact I.ys d hd q hq h1 ((split h2).resolve_right hd')
  · obtain ⟨g3, g3'⟩ := hF h3
    by_cases he' : x.i = e.i
    · have := sub he he'; subst this
      exact (t2 d hd (Ne.symm g3')).2 g3
    · exact I.yb e he h1 ((split h2).resolve_right he') d hd g3
  · by_cases he' : x.i = e.i
    · have := sub he he'; subst this
      exact .inl ((t2 d hd h5).1 ((split h4).resolve_right (Ne.symm h5))).1
    · have g2 := (split h2).resolve_right he'
      by_cases hd' : x.i = d.i
      · have := sub hd hd'; subst this
        exact (I.yb e he h1 g2 d hd hxL).imp apart_nl id
      · exact I.yy e he h1 g2 d hd h3 ((split h4).resolve_right hd') h5
  · obtain ⟨h2, h2'⟩ := hF h2
    obtain ⟨⟨a', w1, w2, v, k1, k2, k3⟩, k4⟩ := I.zc z hz q hq h1 h2
    refine ⟨⟨a', w1, w2, v, k1, k2.agree fun t ht => put_get fun e => ?_, k3⟩, k4⟩
    rcases (t2 z hz (Ne.symm h2')).2 h2 with h3 | h3
    · exact nl_ok hA X.mem hz X.at' hq (apart_nl h3) t e ht
    · exact hxl (am_ls hA I.cl hz hq (I.cl _ _ h1 hq) h3)
  · have ho : o.dst ≠ some t := hn x X.mem o X.at' (.inr ⟨hxl, has_add.2 (.inr rfl)⟩)
    rw [put_get ho] at e
    refine I.tr t v e fun d hd q hq hO => ?_
    by_cases hd' : x.i = d.i
    · have := sub hd hd'; subst this
      have := X.at'; rw [hq] at this; cases this
      exact ho
    · exact hn d hd q hq ((Odd_add (Ne.symm hd')).2 hO)
/-- Those that look at memory are looked at again. -/
theorem AG.get (hA : ODs P ops ops.size all) {L : Nat} {x : OD} {α : T AV} {h : Hp} {nx : Pa} (g : AG P nt ops all L x α h nx) {d : OD} {o : Oper} (hd : d ∈ all) (ho : ops[d.i]? = some o) (hk : d.kd = 1) (hL : has L d.i = true) (hn : has x.am d.i = false) :
    ∃ av, evS c (cS P nt ops o) α h nx = .ok av h nx ∧ ∀ t, o.dst = some t → ∃ u, getP (path t) α = some u ∧ ∀ ρ v, V ρ av v → V ρ u v := by
  have hm := lookAgain_spec hd hk hL hn
  rcases g with g | g
  · rw [g] at hm; cases hm
  · have hs : nthO P nt ops d.i = cS P nt ops o := by unfold nthO; rw [ho]
    obtain ⟨v, h', n', p, u, e1, e2, e3, e4⟩ := again_spec g _ (List.mem_map.2 ⟨d.i, hm, hs⟩)
    have ht := kdTake hA hd ho (by omega)
    have e5 := take_call (c := c) ht e1
    obtain ⟨rfl, rfl⟩ := take_keep ht e5
    refine ⟨v, e5, fun t ht => ⟨u, ?_, fun ρ y hy => (eqA_V v u e4).1 _ hy⟩⟩
    rw [cS_dst, ht] at e2
    cases e2; exact e3
/-- Those taken and not yet come up, behind a step that they are apart from. -/
theorem yc_next (hA : ODs P ops ops.size all) {L : Nat} {l : Array Bool} {a : Act} {w : World} {α : T AV} {h h1 : Hp} {nx n1 : Pa} {ρ : Ren} {lo hi : Nat → Nat} {x : OD} {o : Oper} {av : AV} (hx : x ∈ all) (hxo : ops[x.i]? = some o)
    (I : Inv P nt ops c all ρ0 h0 a0 w0 L l a w α h nx ρ lo hi) (g : AG P nt ops all L x (putD (o.dst.map path) av α) h1 n1) {d : OD} {q : Oper} (hd : d ∈ all) (hq : ops[d.i]? = some q) (hl : ¬ Ls l d.i) (hL : has L d.i = true) (hn : has x.am d.i = false)
    (hap : Apart ops o q) : ∃ α' av', evS c (cS P nt ops q) α' h1 n1 = .ok av' h1 n1 ∧ (∀ t ∈ q.looksAt ops, getP (path t) α' = getP (path t) (putD (o.dst.map path) av α)) ∧ ∀ t, q.dst = some t → ∃ u, getP (path t) (putD (o.dst.map path) av α) = some u ∧ ∀ ρ v, V ρ av' v → V ρ u v := by
  have hk := I.yk d hd hl hL
  by_cases hk0 : d.kd = 0
  · obtain ⟨α', av', q1, q2, q3⟩ := I.yc d hd q hq hl hL
    refine ⟨α', av', take_pure (kdPure hA hd hq hk0) q1 h1 n1, fun t ht => ?_, fun t e => ?_⟩
    · rw [put_get (fun e => hap.1 t e ht)]; exact q2 t ht
    · rw [put_get (fun e' => hap.2.1 t e' e)]; exact q3 t e
  · obtain ⟨av', q1, q2⟩ := g.get (c := c) hA hd hq (by omega) hL hn
    exact ⟨_, av', q1, fun _ _ => rfl, q2⟩
/-- One that has floated up comes to its place. -/
theorem Inv.late (hA : ODs P ops ops.size all) {m L : Nat} {l : Array Bool} {a : Act} {w : World} {α : T AV} {h h1 : Hp} {nx n1 : Pa} {ρ : Ren} {lo hi : Nat → Nat} {x : OD} {o : Oper} {av : AV}
    (I : Inv P nt ops c all ρ0 h0 a0 w0 L l a w α h nx ρ lo hi) (E : evR c (cSc P nt ops (sched all (lates all) (m + 1) L)) α h nx = .nx αF hF nF) (X : Nx P nt ops c all m L α h nx αF hF nF x o av h1 n1) (hk : x.kd = 3) (hg : AG P nt ops all L x (putD (o.dst.map path) av α) h1 n1) (hlt : lateOk L (lates all) x all = true) (hxl : Ls l x.i) :
    ∃ ρ', Inv P nt ops c all ρ0 h0 a0 w0 (Nat.lor L (bit x.i)) l a w (putD (o.dst.map path) av α) h1 n1 ρ' lo hi := by
  have hxL := (readyD_spec.1 X.rdy).1
  have hF : ∀ {j : Nat}, has (Nat.lor L (bit x.i)) j = false → has L j = false ∧ x.i ≠ j := fun {j} q => by
    refine ⟨?_, fun e => ?_⟩
    · cases r : has L j with
      | false => rfl
      | true => rw [has_add.2 (.inl r)] at q; cases q
    · rw [has_add.2 (.inr e)] at q; cases q
  have sub : ∀ {d : OD}, d ∈ all → x.i = d.i → d = x := fun hd e => (hA.uniq x X.mem _ hd e).symm
  have old : ∀ {j : Nat}, ¬ Ls l j → has (Nat.lor L (bit x.i)) j = true → has L j = true := fun {j} h1 h2 => (has_add.1 h2).resolve_right fun e => h1 (by rw [← e]; exact hxl)
  have nam : ∀ {j : Nat}, ¬ Ls l j → has x.am j = false := fun {j} h1 => by
    cases r : has x.am j with
    | false => rfl
    | true => exact (h1 (am_ls hA I.cl X.mem X.at' (I.cl _ _ hxl X.at') r)).elim
  obtain ⟨k1, k2⟩ := kdLate hA X.mem X.at' hk
  obtain ⟨_, _, b, mk, hown, he, rfl, rfl, rfl⟩ := late_ev k1 k2 X.ev
  obtain ⟨⟨a', w1, w2, v, z1, z2, z3, z4, z5, z6, z7⟩, z8⟩ := I.zc x X.mem o X.at' hxl hxL
  obtain ⟨ρ', v', w', g, t, r1, r2, r3, r4, r5, r6, r7, r8, _⟩ := late_run (w := w1) k1 I.H z2 he
  obtain ⟨rfl, rfl⟩ := Yld.det r1 z1
  rw [z3] at r5
  rw [z4] at r6
  obtain ⟨y1, y2⟩ := z6 g r5 r6
  have hb : BR ρ' b g t w := BR_mono (Ext.refl ρ') y1 r4
  have hlive : ∀ {k : Nat}, Live ρ' (setP (some b) nx h) k → k = g ∨ Live ρ h k := fun {k} ⟨id, b', t', e1, e2⟩ => by
    rcases get_set' (some b) id nx h with ⟨h4, h5⟩ | ⟨h4, h5⟩
    · subst h5; rw [r3] at e2; cases e2; exact .inl rfl
    · rw [h4] at e1
      obtain ⟨g', t'', e3, _⟩ := I.H.blk id b' e1
      rw [r7 _ _ e3] at e2; cases e2
      exact .inr ⟨id, b', _, e1, e3⟩
  refine ⟨ρ', I.size, I.cl, fun d hd h1 h2 => I.zk d hd h1 (hF h2).1, fun d hd h1 h2 => I.yk d hd h1 (old h1 h2), fun d hd q hq h1 h2 => ?_, fun d hd q hq h1 h2 => I.ys d hd q hq h1 (old h1 h2),
    fun e he h1 h2 d hd h3 => I.yb e he h1 (old h1 h2) d hd (hF h3).1, fun e he h1 h2 d hd h3 h4 h5 => I.yy e he h1 (old h1 h2) d hd h3 (old h3 h4) h5, fun z hz q hq h1 h2 => ?_,
    fun z hz z' hz' h1 h2 h3 h4 h5 => I.zd z hz z' hz' h1 (hF h2).1 h3 (hF h4).1 h5, fun t' u e hn => ?_, ⟨r8, fun id b' e => ?_, fun id id' b1 b2 k s1 s2 e1 e2 e3 e4 => ?_⟩,
    ⟨I.S.ext.trans r7, I.S.os, I.S.tape, I.S.output, I.S.size, I.S.keep, fun k ⟨id, b', s, e1, e2, e3⟩ => ?_, fun k hk => ?_⟩, I.nt, I.sz, I.df⟩
  · have hne : d.i ≠ x.i := fun e => h1 (by rw [e]; exact hxl)
    refine yc_next hA X.mem X.at' I hg hd hq h1 (old h1 h2) (nam h1) ?_
    rcases (lateOk_spec hlt).2 d hd hne (old h1 h2) with h3 | h3
    · rw [nam h1] at h3; cases h3
    · exact OD_apart hA X.mem hd X.at' hq h3
  · obtain ⟨h2, h2'⟩ := hF h2
    obtain ⟨⟨a'', w1', w2', v'', q1, q2, q3, q4, q5, q6, q7⟩, q8⟩ := I.zc z hz q hq h1 h2
    refine ⟨⟨a'', w1', w2', v'', q1, (q2.agree fun t ht => put_get fun e => ?_).mono r7, q3, q4, q5, fun k hk1 hk2 => ⟨(q6 k hk1 hk2).1, fun hl => ?_⟩, q7⟩, q8⟩
    · have := fut2 hA X.mem hz hk (I.zk z hz h1 h2) h2' E hxL h2
      rcases this with h3 | h3
      · exact (OD_apart hA X.mem hz X.at' hq h3).1 t e ht
      · exact (OD_apart hA hz X.mem hq X.at' h3).2.2 t e ht
    · rcases hlive hl with rfl | hl
      · rcases I.zd x X.mem z hz hxl hxL h1 h2 h2' with h5 | h5 <;> omega
      · exact (q6 k hk1 hk2).2 hl
  · by_cases ho : o.dst = some t'
    · rw [put_got ho] at e
      cases e
      rw [z7 t' ho]; exact r2
    · rw [put_get ho] at e
      refine V_mono r7 (I.tr t' u e fun d hd q hq hO => ?_)
      by_cases hd' : x.i = d.i
      · have := sub hd hd'; subst this
        have := X.at'; rw [hq] at this; cases this
        exact ho
      · exact hn d hd q hq ((Odd_add (Ne.symm hd')).2 hO)
  · rcases get_set' (some b) id nx h with ⟨h4, h5⟩ | ⟨h4, h5⟩
    · rw [h4] at e; cases e; subst h5; exact ⟨g, t, r3, hb⟩
    · rw [h4] at e
      obtain ⟨g', t', e3, e4⟩ := I.H.blk id b' e
      exact ⟨g', t', r7 _ _ e3, BR_mono r7 rfl e4⟩
  · have aux : ∀ {id : Pa} {b' : Blk} {s : Nat}, getP id (setP (some b) nx h) = some b' → ρ' id = some (k, s) → (id = nx ∧ k = g) ∨ (id ≠ nx ∧ getP id h = some b' ∧ ∃ s, ρ id = some (k, s)) := fun {id b' s} f1 f2 => by
      rcases get_set' (some b) id nx h with ⟨h4, h5⟩ | ⟨h4, h5⟩
      · subst h5; rw [r3] at f2; cases f2; exact .inl ⟨rfl, rfl⟩
      · rw [h4] at f1
        obtain ⟨g', t'', e3, _⟩ := I.H.blk id b' f1
        rw [r7 _ _ e3] at f2; cases f2
        exact .inr ⟨h5, f1, _, e3⟩
    rcases aux e1 e3 with ⟨h4, h5⟩ | ⟨h4, h5, s, h6⟩ <;> rcases aux e2 e4 with ⟨h7, h8⟩ | ⟨h7, h8, s', h9⟩
    · rw [h4, h7]
    · subst h5; exact (y2 ⟨id', b2, s', h8, h9⟩).elim
    · subst h8; exact (y2 ⟨id, b1, s, h5, h6⟩).elim
    · exact I.H.inj id id' b1 b2 k s s' h5 h8 h6 h9
  · rcases get_set' (some b) id nx h with ⟨h4, h5⟩ | ⟨h4, h5⟩
    · subst h5; rw [r3] at e3; cases e3; exact .inr (by omega)
    · rw [h4] at e1
      obtain ⟨g', t'', e4, _⟩ := I.H.blk id b' e1
      rw [r7 _ _ e4] at e3; cases e3
      exact I.S.own _ ⟨id, b', _, e1, e2, e4⟩
  · rcases hlive hk with rfl | hk
    · exact .inr (by omega)
    · exact I.S.live k hk
end
end Go.Ev
end

section
open Go
namespace Go.Ev
section
variable {P : Program} {ops : Array Oper} {nt : Nat} {c : CallF} {all : List OD} {ρ0 : Ren} {h0 : Hp} {a0 : Act} {w0 : World} {αF : T AV} {hF : Hp} {nF : Pa}
theorem Odd_set {L i j : Nat} {l : Array Bool} (hi : i < l.size) (h : j ≠ i) : Odd L (l.setIfInBounds i true) j ↔ Odd L l j := by
  unfold Odd
  rw [Ls_set hi]
  simp [Ne.symm h]
theorem Closed.set {l : Array Bool} (hc : Closed ops l) {i : Nat} {o : Oper} (hi : i < l.size) (ho : ops[i]? = some o) (hE : Edges l o) : Closed ops (l.setIfInBounds i true) := fun j q hj hq e he hb => by
  rw [Ls_set hi] at hj ⊢
  rcases hj with hj | hj
  · exact .inl (hc j q hj hq e he hb)
  · subst hj; rw [ho] at hq; cases hq; exact .inl (hE e he hb)
/-- What has floated up stays, whatever else is done. -/
theorem ZRec.next {ρ ρ' : Ren} {α β : T AV} {h h1 : Hp} {a : Act} {w w' : World} {z o : Oper} {lo hi : Nat} {v : Value} (Z : ZRec P ops z ρ α h a w lo hi) (hx : Ext ρ ρ') (hs : w.heap.size ≤ w'.heap.size) (hk : ∀ g, g < w.heap.size → ¬ Live ρ h g → w'.heap[g]? = w.heap[g]?)
    (hl : ∀ g, Live ρ' h1 g → Live ρ h g ∨ w.heap.size ≤ g) (hα : ∀ t ∈ z.looksAt ops, getP (path t) β = getP (path t) α) (hd : ∀ t, z.dst = some t → o.dst ≠ some t) : ZRec P ops z ρ' β h1 (a.put o.dst v) w' lo hi := by
  obtain ⟨a', w1, w2, u, k1, k2, k3, k4, k5, k6, k7⟩ := Z
  refine ⟨a', w1, w2, u, k1, (k2.agree hα).mono hx, k3, k4, by omega, fun g g1 g2 => ⟨?_, fun q => ?_⟩, fun d e => ?_⟩
  · rw [hk g (by omega) (k6 g g1 g2).2]; exact (k6 g g1 g2).1
  · rcases hl g q with q | q
    · exact (k6 g g1 g2).2 q
    · omega
  · rw [put_other a v (hd d e)]; exact k7 d e
theorem Own.live {ρ : Ren} {h : Hp} {g : Nat} (x : Own ρ h g) : Live ρ h g := by obtain ⟨i, b, t, h1, _, h3⟩ := x; exact ⟨i, b, t, h1, h3⟩
theorem Stp.off {ρ ρ' : Ren} {h h' : Hp} {w w' : World} (s : Stp ρ h w ρ' h' w') {g : Nat} (hg : g < w.heap.size) (hn : ¬ Live ρ h g) : w'.heap[g]? = w.heap[g]? := s.keep g hg fun o => hn o.live
def wpIf (P : Program) (ops : Array Oper) (o : Oper) (a : Act) (w : World) (K : Act → World → Prop) (Q : Exit → Act → World → Prop) : Prop :=
  if Region.wanted o (yielded ops a.tmps) then o.wp P a w K Q ∨ (o.asks P a w ∧ LetsOut Q) else K (a.put o.dst undef) w
/-- One that the schedule has taken already. -/
theorem Inv.stepY (hC : CallOk P c) (hA : ODs P ops ops.size all) {n L : Nat} {l : Array Bool} {a : Act} {w : World} {α : T AV} {h : Hp} {nx : Pa} {ρ : Ren} {lo hi : Nat → Nat} {x : OD} {o : Oper}
    (I : Inv P nt ops c all ρ0 h0 a0 w0 L l a w α h nx ρ lo hi) (E : evR c (cSc P nt ops (sched all (lates all) n L)) α h nx = .nx αF hF nF) (hx : x ∈ all) (ho : ops[x.i]? = some o) (hxl : ¬ Ls l x.i) (hxL : has L x.i = true) (hE : Edges l o)
    (K : Act → World → Prop) (Q : Exit → Act → World → Prop) (hK : ∀ a' w' ρ', Inv P nt ops c all ρ0 h0 a0 w0 L (l.setIfInBounds x.i true) a' w' α h nx ρ' lo hi → K a' w') : wpIf P ops o a w K Q := by
  have hlt : x.i < l.size := by rw [I.size]; exact (Array.getElem?_eq_some_iff.1 ho).1
  have sub : ∀ {d : OD}, d ∈ all → x.i = d.i → d = x := fun hd e => (hA.uniq x hx _ hd e).symm
  obtain ⟨α', av, e1, e2, e3⟩ := I.yc x hx o ho hxl hxL
  have hz : ∀ z ∈ all, ∀ q, ops[z.i]? = some q → Ls l z.i → has L z.i = false → Apart ops q o := fun z hz q hq h1 h2 => by
    obtain ⟨Lz, _, _, _, _, _, _, b1, b2, _⟩ := fut hA hz hq (I.zk z hz h1 h2) E h2
    have hne : x.i ≠ z.i := fun e => hxl (by rw [e]; exact h1)
    rcases (lateOk_spec b2).2 x hx hne (b1 _ hxL) with h3 | h3
    · exact (hxl (am_ls hA I.cl hz hq (I.cl _ _ h1 hq) h3)).elim
    · exact OD_apart hA hz hx hq ho h3
  have hL : LR ρ α' a.tmps ops o := fun t ht v e => by
    rw [e2 t ht] at e
    refine I.tr t v e fun d hd q hq hO hdt => ?_
    rcases hO with ⟨h1, h2⟩ | ⟨h1, h2⟩
    · exact (hz d hd q hq h1 h2).1 t hdt ht
    · by_cases hd' : x.i = d.i
      · have := sub hd hd'; subst this
        rw [ho] at hq; cases hq
        exact I.ys d hd o ho h1 h2 t hdt ht
      · rcases I.yy d hd h1 h2 x hx hxl hxL hd' with h3 | h3
        · exact nl_ok hA hd hx hq ho h3 t hdt ht
        · exact h1 (am_ls hA I.cl hx ho hE h3)
  refine step_ok hC I.H hL I.nt e1 K Q fun ρ' v w' k1 k2 k3 k4 => hK _ w' ρ' ?_
  have hS : ∀ {j : Nat}, ¬ Ls (l.setIfInBounds x.i true) j → ¬ Ls l j ∧ x.i ≠ j := fun {j} q => by
    rw [Ls_set hlt] at q; exact ⟨fun r => q (.inl r), fun r => q (.inr r)⟩
  have hP : ∀ {j : Nat}, Ls (l.setIfInBounds x.i true) j → has L j = false → Ls l j := fun {j} q r => by
    rw [Ls_set hlt] at q; exact q.resolve_right fun e => by rw [e, r] at hxL; cases hxL
  refine ⟨by simp [I.size], I.cl.set hlt ho hE, fun d hd h1 h2 => I.zk d hd (hP h1 h2) h2, fun d hd h1 h2 => I.yk d hd (hS h1).1 h2, fun d hd q hq h1 h2 => I.yc d hd q hq (hS h1).1 h2, fun d hd q hq h1 h2 => I.ys d hd q hq (hS h1).1 h2,
    fun e he h1 h2 d hd h3 => I.yb e he (hS h1).1 h2 d hd h3, fun e he h1 h2 d hd h3 h4 h5 => I.yy e he (hS h1).1 h2 d hd (hS h3).1 h4 h5, fun z hz' q hq h1 h2 => ?_,
    fun z hz z' hz' h1 h2 h3 h4 h5 => I.zd z hz z' hz' (hP h1 h2) h2 (hP h3 h4) h4 h5, fun t u e hn => ?_, k2, I.S.trans k3, by rw [put_size]; exact I.nt, by rw [put_size]; exact I.sz, by rw [put_defers]; exact I.df⟩
  · obtain ⟨q1, q2⟩ := I.zc z hz' q hq (hP h1 h2) h2
    exact ⟨q1.next k3.ext k3.size (fun g g1 g2 => k3.off g1 g2) k3.live (fun _ _ => rfl) (fun t e => (hz z hz' q hq (hP h1 h2) h2).2.1 t e), q2⟩
  · by_cases hd : o.dst = some t
    · obtain ⟨u', q1, q2⟩ := e3 t hd
      rw [q1] at e; cases e
      exact q2 _ _ (k4 t hd)
    · rw [put_other a v hd]
      refine V_mono k3.ext (I.tr t u e fun d hd' q hq hO => ?_)
      by_cases hd'' : x.i = d.i
      · have := sub hd' hd''; subst this
        rw [ho] at hq; cases hq; exact hd
      · exact hn d hd' q hq ((Odd_set hlt (Ne.symm hd'')).2 hO)
/-- One that floats. -/
theorem Inv.stepZ (hA : ODs P ops ops.size all) {n L : Nat} {l : Array Bool} {a : Act} {w : World} {α : T AV} {h : Hp} {nx : Pa} {ρ : Ren} {lo hi : Nat → Nat} {x : OD} {o : Oper}
    (I : Inv P nt ops c all ρ0 h0 a0 w0 L l a w α h nx ρ lo hi) (E : evR c (cSc P nt ops (sched all (lates all) n L)) α h nx = .nx αF hF nF) (hx : x ∈ all) (ho : ops[x.i]? = some o) (hxl : ¬ Ls l x.i) (hxL : has L x.i = false) (hk : x.kd = 3) (hE : Edges l o)
    (K : Act → World → Prop) (Q : Exit → Act → World → Prop) (hK : ∀ a' w' lo' hi', Inv P nt ops c all ρ0 h0 a0 w0 L (l.setIfInBounds x.i true) a' w' α h nx ρ lo' hi' → K a' w') : wpIf P ops o a w K Q := by
  have hlt : x.i < l.size := by rw [I.size]; exact (Array.getElem?_eq_some_iff.1 ho).1
  have sub : ∀ {d : OD}, d ∈ all → x.i = d.i → d = x := fun hd e => (hA.uniq x hx _ hd e).symm
  obtain ⟨Lz, αf, hf, nf, av, h', n', b1, b2, b3, b4⟩ := fut hA hx ho hk E hxL
  have b5 := b4 fun k hk' => by
    have hl := am_ls hA I.cl hx ho hE hk'
    cases r : has L k with
    | true => rfl
    | false =>
      have hkl := Ls_lt hl
      rw [I.size] at hkl
      obtain ⟨d, hd, rfl⟩ := hA.all k hkl
      exact (z0_land (lateOk_spec b2).1 hk' (has_lates.2 ⟨d, hd, I.zk d hd hl r, rfl⟩)).elim
  obtain ⟨k1, k2⟩ := kdLate hA hx ho hk
  obtain ⟨hgd, hdn, b, mk, hown, he, _⟩ := late_ev k1 k2 b3
  have hz : ∀ z ∈ all, ∀ q, ops[z.i]? = some q → Ls l z.i → has L z.i = false → Apart ops q o := fun z hz q hq h1 h2 => by
    have hne : x.i ≠ z.i := fun e => hxl (by rw [e]; exact h1)
    rcases fut2 hA hx hz hk (I.zk z hz h1 h2) hne E hxL h2 with h3 | h3
    · exact (OD_apart hA hx hz ho hq h3).symm
    · exact OD_apart hA hz hx hq ho h3
  have hL : LR ρ αf a.tmps ops o := fun t ht v e => by
    rw [b5 t ht] at e
    refine I.tr t v e fun d hd q hq hO hdt => ?_
    rcases hO with ⟨h1, h2⟩ | ⟨h1, h2⟩
    · exact (hz d hd q hq h1 h2).1 t hdt ht
    · rcases I.yb d hd h1 h2 x hx hxL with h3 | h3
      · exact nl_ok hA hd hx hq ho (apart_nl h3) t hdt ht
      · exact h1 (am_ls hA I.cl hx ho hE h3)
  obtain ⟨ρ', v, w', g, t, r1, r2, r3, r4, r5, r6, r7, r8, s1, s2, s3, s4, s5⟩ := late_run (w := w) k1 I.H hL he
  have hwant : Region.wanted o (yielded ops a.tmps) = true := by unfold Region.wanted; rw [hgd]
  unfold wpIf
  rw [if_pos hwant]
  refine .inl (r1.wp (hK _ w' (fun i => if i = x.i then w.heap.size else lo i) (fun i => if i = x.i then w'.heap.size else hi i) ?_))
  have hS : ∀ {j : Nat}, ¬ Ls (l.setIfInBounds x.i true) j → ¬ Ls l j ∧ x.i ≠ j := fun {j} q => by
    rw [Ls_set hlt] at q; exact ⟨fun r => q (.inl r), fun r => q (.inr r)⟩
  have hP : ∀ {j : Nat}, Ls (l.setIfInBounds x.i true) j → Ls l j ∧ j ≠ x.i ∨ x.i = j := fun {j} q => by
    rw [Ls_set hlt] at q
    rcases q with q | q
    · exact .inl ⟨q, fun e => hxl (by rw [← e]; exact q)⟩
    · exact .inr q
  have hlv : ∀ {k : Nat}, Live ρ h k → k < w.heap.size := fun {k} ⟨id, b, t, e, e'⟩ => by
    obtain ⟨g, t', e1, e2⟩ := I.H.blk id b e
    rw [e'] at e1; cases e1; exact e2.lt
  refine ⟨by simp [I.size], I.cl.set hlt ho hE, fun d hd h1 h2 => ?_, fun d hd h1 h2 => I.yk d hd (hS h1).1 h2, fun d hd q hq h1 h2 => I.yc d hd q hq (hS h1).1 h2, fun d hd q hq h1 h2 => I.ys d hd q hq (hS h1).1 h2,
    fun e he h1 h2 d hd h3 => I.yb e he (hS h1).1 h2 d hd h3, fun e he h1 h2 d hd h3 h4 h5 => I.yy e he (hS h1).1 h2 d hd (hS h3).1 h4 h5, fun z hz' q hq h1 h2 => ?_,
    fun z hz z' hz' h1 h2 h3 h4 h5 => ?_, fun t u e hn => ?_, ⟨I.H.dom, fun id b e => ?_, I.H.inj⟩,
    ⟨I.S.ext, s1.trans I.S.os, s2.trans I.S.tape, s3.trans I.S.output, Nat.le_trans I.S.size s4, fun k g1 g2 => (s5 k (Nat.lt_of_lt_of_le g1 I.S.size)).trans (I.S.keep k g1 g2), I.S.own, I.S.live⟩, by rw [put_size]; exact I.nt, by rw [put_size]; exact I.sz, by rw [put_defers]; exact I.df⟩
  · rcases hP h1 with ⟨q, _⟩ | q
    · exact I.zk d hd q h2
    · rw [sub hd q]; exact hk
  · rcases hP h1 with ⟨q1, q2⟩ | q1
    · simp only [if_neg q2]
      obtain ⟨y1, y2⟩ := I.zc z hz' q hq q1 h2
      exact ⟨y1.next (Ext.refl ρ) s4 (fun g g1 _ => s5 g g1) (fun g g1 => .inl g1) (fun _ _ => rfl) (fun t e => (hz z hz' q hq q1 h2).2.1 t e), y2⟩
    · have := sub hz' q1; subst this
      rw [ho] at hq; cases hq
      simp only [if_true]
      exact ⟨⟨a, w, w', v, r1, hL.agree (fun t ht => (b5 t ht).symm), rfl, rfl, Nat.le_refl _, fun k g1 g2 => ⟨rfl, fun q => by have := hlv q; omega⟩, fun d e => by
        rw [e, put_tmps, getD_set, if_pos ⟨rfl, Nat.lt_of_lt_of_le (hdn d e) I.nt⟩]⟩, I.S.size⟩
  · have hhi : ∀ y ∈ all, Ls l y.i → has L y.i = false → hi y.i ≤ w.heap.size := fun y hy g1 g2 => by
      obtain ⟨q, hq, _⟩ := (hA.ok y hy).ex
      obtain ⟨⟨_, _, _, _, _, _, _, _, g3, _⟩, _⟩ := I.zc y hy q hq g1 g2
      exact g3
    rcases hP h1 with ⟨q1, q2⟩ | q1 <;> rcases hP h3 with ⟨q3, q4⟩ | q3
    · simp only [if_neg q2, if_neg q4]; exact I.zd z hz z' hz' q1 h2 q3 h4 h5
    · simp only [if_neg q2, if_pos q3.symm]; exact .inl (hhi z hz q1 h2)
    · simp only [if_neg q4, if_pos q1.symm]; exact .inr (hhi z' hz' q3 h4)
    · exact absurd (q1.symm.trans q3) h5
  · have hd : o.dst ≠ some t := hn x hx o ho (.inl ⟨(Ls_set hlt).2 (.inr rfl), hxL⟩)
    rw [put_other a v hd]
    refine I.tr t u e fun d hd' q hq hO => ?_
    by_cases hd'' : x.i = d.i
    · have := sub hd' hd''; subst this
      rw [ho] at hq; cases hq; exact hd
    · exact hn d hd' q hq ((Odd_set hlt (Ne.symm hd'')).2 hO)
  · obtain ⟨g', t', e1, e2⟩ := I.H.blk id b e
    exact ⟨g', t', e1, BR_mono (Ext.refl ρ) (s5 g' e2.lt) e2⟩
/-- The next of the schedule. -/
theorem Inv.stepD (hC : CallOk P c) (hA : ODs P ops ops.size all) {m L : Nat} {l : Array Bool} {a : Act} {w : World} {α : T AV} {h h1 : Hp} {nx n1 : Pa} {ρ : Ren} {lo hi : Nat → Nat} {x : OD} {o : Oper} {av : AV}
    (I : Inv P nt ops c all ρ0 h0 a0 w0 L l a w α h nx ρ lo hi) (X : Nx P nt ops c all m L α h nx αF hF nF x o av h1 n1) (hg : AG P nt ops all L x (putD (o.dst.map path) av α) h1 n1) (hxl : ¬ Ls l x.i) (hE : Edges l o)
    (K : Act → World → Prop) (Q : Exit → Act → World → Prop) (hK : ∀ a' w' ρ', Inv P nt ops c all ρ0 h0 a0 w0 (Nat.lor L (bit x.i)) (l.setIfInBounds x.i true) a' w' (putD (o.dst.map path) av α) h1 n1 ρ' lo hi → K a' w') : wpIf P ops o a w K Q := by
  have hx := X.mem
  have ho := X.at'
  have hxL := (readyD_spec.1 X.rdy).1
  have hlt : x.i < l.size := by rw [I.size]; exact (Array.getElem?_eq_some_iff.1 ho).1
  have sub : ∀ {d : OD}, d ∈ all → x.i = d.i → d = x := fun hd e => (hA.uniq x hx _ hd e).symm
  have hF : ∀ {j : Nat}, has (Nat.lor L (bit x.i)) j = false → has L j = false ∧ x.i ≠ j := fun {j} q => by
    refine ⟨?_, fun e => ?_⟩
    · cases r : has L j with
      | false => rfl
      | true => rw [has_add.2 (.inl r)] at q; cases q
    · rw [has_add.2 (.inr e)] at q; cases q
  have nam : ∀ {j : Nat}, ¬ Ls l j → has x.am j = false := fun {j} h1 => by
    cases r : has x.am j with
    | false => rfl
    | true => exact (h1 (am_ls hA I.cl hx ho hE r)).elim
  have hy : ∀ d ∈ all, ∀ q, ops[d.i]? = some q → ¬ Ls l d.i → has L d.i = true → Apart ops q o := fun d hd q hq h1 h2 => by
    rcases I.yb d hd h1 h2 x hx hxL with h3 | h3
    · exact OD_apart hA hd hx hq ho h3
    · rw [nam h1] at h3; cases h3
  have hz : ∀ z ∈ all, ∀ q, ops[z.i]? = some q → Ls l z.i → has L z.i = false → Apart ops q o := fun z hz q hq h1 h2 => by
    have hne : x.i ≠ z.i := fun e => hxl (by rw [e]; exact h1)
    obtain ⟨Lz, _, _, _, _, _, _, b1, b2, _⟩ := fut hA hz hq (I.zk z hz h1 h2) X.rest (has_addF h2 hne)
    rcases (lateOk_spec b2).2 x hx hne (b1 _ (has_add.2 (.inr rfl))) with h3 | h3
    · exact (hxl (am_ls hA I.cl hz hq (I.cl _ _ h1 hq) h3)).elim
    · exact OD_apart hA hz hx hq ho h3
  have hL : LR ρ α a.tmps ops o := fun t ht v e => by
    refine I.tr t v e fun d hd q hq hO hdt => ?_
    rcases hO with ⟨h1, h2⟩ | ⟨h1, h2⟩
    · exact (hz d hd q hq h1 h2).1 t hdt ht
    · exact (hy d hd q hq h1 h2).1 t hdt ht
  refine step_ok hC I.H hL I.nt X.ev K Q fun ρ' v w' k1 k2 k3 k4 => hK _ w' ρ' ?_
  have hS : ∀ {j : Nat}, ¬ Ls (l.setIfInBounds x.i true) j → ¬ Ls l j ∧ x.i ≠ j := fun {j} q => by
    rw [Ls_set hlt] at q; exact ⟨fun r => q (.inl r), fun r => q (.inr r)⟩
  have old : ∀ {j : Nat}, ¬ Ls (l.setIfInBounds x.i true) j → has (Nat.lor L (bit x.i)) j = true → has L j = true := fun {j} h1 h2 => (has_add.1 h2).resolve_right (hS h1).2
  have hP : ∀ {j : Nat}, Ls (l.setIfInBounds x.i true) j → has (Nat.lor L (bit x.i)) j = false → Ls l j ∧ has L j = false := fun {j} q r => by
    obtain ⟨r1, r2⟩ := hF r
    rw [Ls_set hlt] at q; exact ⟨q.resolve_right r2, r1⟩
  refine ⟨by simp [I.size], I.cl.set hlt ho hE, fun d hd h1 h2 => I.zk d hd (hP h1 h2).1 (hP h1 h2).2, fun d hd h1 h2 => I.yk d hd (hS h1).1 (old h1 h2), fun d hd q hq h1 h2 => ?_, fun d hd q hq h1 h2 => I.ys d hd q hq (hS h1).1 (old h1 h2),
    fun e he h1 h2 d hd h3 => I.yb e he (hS h1).1 (old h1 h2) d hd (hF h3).1, fun e he h1 h2 d hd h3 h4 h5 => I.yy e he (hS h1).1 (old h1 h2) d hd (hS h3).1 (old h3 h4) h5, fun z hz' q hq h1 h2 => ?_,
    fun z hz z' hz' h1 h2 h3 h4 h5 => I.zd z hz z' hz' (hP h1 h2).1 (hP h1 h2).2 (hP h3 h4).1 (hP h3 h4).2 h5, fun t u e hn => ?_, k2, I.S.trans k3, by rw [put_size]; exact I.nt, by rw [put_size]; exact I.sz, by rw [put_defers]; exact I.df⟩
  · exact yc_next hA hx ho I hg hd hq (hS h1).1 (old h1 h2) (nam (hS h1).1) (hy d hd q hq (hS h1).1 (old h1 h2)).symm
  · obtain ⟨g1, g2⟩ := hP h1 h2
    obtain ⟨q1, q2⟩ := I.zc z hz' q hq g1 g2
    exact ⟨q1.next k3.ext k3.size (fun g g1 g2 => k3.off g1 g2) k3.live (fun t ht => put_get fun e => (hz z hz' q hq g1 g2).2.2 t e ht) (fun t e => (hz z hz' q hq g1 g2).2.1 t e), q2⟩
  · by_cases hd : o.dst = some t
    · rw [put_got hd] at e; cases e
      exact k4 t hd
    · rw [put_get hd] at e
      rw [put_other a v hd]
      refine V_mono k3.ext (I.tr t u e fun d hd' q hq hO => ?_)
      by_cases hd'' : x.i = d.i
      · have := sub hd' hd''; subst this
        rw [ho] at hq; cases hq; exact hd
      · exact hn d hd' q hq (by
          rcases hO with ⟨y1, y2⟩ | ⟨y1, y2⟩
          · exact .inl ⟨(Ls_set hlt).2 (.inl y1), has_addF y2 hd''⟩
          · exact .inr ⟨fun r => (Ls_set hlt).1 r |>.elim y1 hd'', has_add.2 (.inl y2)⟩)
end
end Go.Ev
end

section
open Go
namespace Go.Ev
section
variable {P : Program} {ops : Array Oper} {nt : Nat} {c : CallF} {all : List OD} {ρ0 : Ren} {h0 : Hp} {a0 : Act} {w0 : World} {αF : T AV} {hF : Hp} {nF : Pa}
/-- The schedule goes on as far as it can. -/
theorem advance (hA : ODs P ops ops.size all) : ∀ (n : Nat) {L : Nat} {l : Array Bool} {a : Act} {w : World} {α : T AV} {h : Hp} {nx : Pa} {ρ : Ren} {lo hi : Nat → Nat},
    Inv P nt ops c all ρ0 h0 a0 w0 L l a w α h nx ρ lo hi → evR c (cSc P nt ops (sched all (lates all) n L)) α h nx = .nx αF hF nF →
    ∃ n' L' α' h' nx' ρ', Inv P nt ops c all ρ0 h0 a0 w0 L' l a w α' h' nx' ρ' lo hi ∧ evR c (cSc P nt ops (sched all (lates all) n' L')) α' h' nx' = .nx αF hF nF ∧
      ((L' = allL all ∧ α' = αF ∧ h' = hF ∧ nx' = nF) ∨ ∃ m x o av h1 n1, n' = m + 1 ∧ Nx P nt ops c all m L' α' h' nx' αF hF nF x o av h1 n1 ∧ ¬ Ls l x.i ∧ AG P nt ops all L' x (putD (o.dst.map path) av α') h1 n1 ∧
        ((x.kd ≠ 3 ∧ ∀ y ∈ all, y.kd ≠ 3 → has L' y.i = false → (∀ k, has y.pm k = true → has L' k = true ∨ has (lates all) k = true) → y = x) ∨ (x.kd = 3 ∧ NoR all L' (lates all) x)))
  | n, L, l, a, w, α, h, nx, ρ, lo, hi, I, E => by
    rcases sched_step hA E with hfin | ⟨m, x, o, av, h1, n1, hm, X⟩
    · exact ⟨n, L, α, h, nx, ρ, I, E, .inl hfin⟩
    · subst hm
      have hxL := (readyD_spec.1 X.rdy).1
      rcases X.kind with ⟨k1, k2⟩ | ⟨k1, k2, k3⟩ | ⟨k1, k2, k3, k4⟩
      · exact advance hA m (I.take hA X k1 k2) X.rest
      · exact ⟨m + 1, L, α, h, nx, ρ, I, E, .inr ⟨m, x, o, av, h1, n1, rfl, X, fun q => k1 (I.zk x X.mem q hxL), k2, .inl ⟨k1, k3⟩⟩⟩
      · by_cases hl : Ls l x.i
        · obtain ⟨ρ', I'⟩ := I.late hA E X k1 k2 k3 hl
          exact advance hA m I' X.rest
        · exact ⟨m + 1, L, α, h, nx, ρ, I, E, .inr ⟨m, x, o, av, h1, n1, rfl, X, hl, k2, .inr ⟨k1, k4⟩⟩⟩
theorem count_set {l : Array Bool} {i : Nat} (hi : i < l.size) (h : ¬ Ls l i) : (l.setIfInBounds i true).toList.count false + 1 = l.toList.count false := by
  have h1 : l.toList[i]'(by simpa using hi) = false := by
    unfold Ls at h
    simpa [hi] using h
  have hp : 0 < l.toList.count false := List.count_pos_iff.2 (by rw [← h1]; exact List.getElem_mem _)
  rw [Array.toList_setIfInBounds, List.count_set (by simpa using hi), h1]
  simp only [beq_self_eq_true, if_true]
  rw [if_neg (by decide)]
  omega
theorem allOf {l : Array Bool} (h : l.toList.count false = 0) {i : Nat} (hi : i < l.size) : Ls l i := by
  have h := List.count_eq_zero.1 h
  unfold Ls
  have h2 : l.toList[i]'(by simpa using hi) ∈ l.toList := List.getElem_mem _
  have h3 : l[i] ≠ false := fun e => h (by rw [← e]; simp at h2 ⊢)
  simp [hi]
  simpa using h3
theorem edge_has {o : Oper} {l : Array Bool} (hE : Edges l o) {k : Nat} (hk : has (edgeM o) k = true) : Ls l k := by
  obtain ⟨e, he, hb, rfl⟩ := has_edge.1 hk
  exact hE e he hb
/-- Where nothing may come up, all has. -/
theorem ready_nil (hA : ODs P ops ops.size all) (hpm : ∀ d ∈ all, ∀ k, has d.pm k = true → k < d.i) {l : Array Bool} (hs : l.size = ops.size) (h : Region.ready .any ops l = []) : ∀ i, i < ops.size → Ls l i := by
  intro i
  induction i using Nat.strongRecOn with
  | _ i ih =>
    intro hi
    refine Classical.byContradiction fun hn => ?_
    obtain ⟨d, hd, rfl⟩ := hA.all i hi
    obtain ⟨o, ho, hp, _⟩ := (hA.ok d hd).ex
    have : d.i ∈ Region.ready .any ops l := mem_ready.2 ⟨(Ls_not (by rw [hs]; exact hi)).2 hn, o, ho, fun e he hb => by
      have h1 := hpm d hd e.on (by rw [hp]; exact has_edge.2 ⟨e, he, hb, rfl⟩)
      exact ih e.on h1 (by omega)⟩
    rw [h] at this; cases this
theorem any_ok (hC : CallOk P c) (hA : ODs P ops ops.size all) (hpm : ∀ d ∈ all, ∀ k, has d.pm k = true → k < d.i) {Q : Exit → Act → World → Prop}
    (hQ : ∀ ρ' a' w', TR ρ' αF a'.tmps → HR ρ' hF nF w' → Stp ρ0 h0 w0 ρ' hF w' → a'.tmps.size = a0.tmps.size → a'.defers = a0.defers → Q .normal a' w') :
    ∀ (k n : Nat) {L : Nat} {l : Array Bool} {a : Act} {w : World} {α : T AV} {h : Hp} {nx : Pa} {ρ : Ren} {lo hi : Nat → Nat}, l.toList.count false ≤ k →
    Inv P nt ops c all ρ0 h0 a0 w0 L l a w α h nx ρ lo hi → evR c (cSc P nt ops (sched all (lates all) n L)) α h nx = .nx αF hF nF → wpAny P .any ops Q k l a w := by
  have fin : ∀ {n L : Nat} {l : Array Bool} {a : Act} {w : World} {α : T AV} {h : Hp} {nx : Pa} {ρ : Ren} {lo hi : Nat → Nat}, (∀ i, i < ops.size → Ls l i) →
      Inv P nt ops c all ρ0 h0 a0 w0 L l a w α h nx ρ lo hi → evR c (cSc P nt ops (sched all (lates all) n L)) α h nx = .nx αF hF nF → Q .normal a w := fun {n L l a w α h nx ρ lo hi} hl I E => by
    obtain ⟨n', L', α', h', nx', ρ', I', E', ⟨rfl, rfl, rfl, rfl⟩ | ⟨m, x, o, av, h1, n1, _, X, hx, _⟩⟩ := advance hA n I E
    · refine hQ ρ' a w (fun t v e => I'.tr t v e fun d hd o ho hO => ?_) I'.H I'.S I'.sz I'.df
      rcases hO with ⟨_, h2⟩ | ⟨h2, _⟩
      · rw [has_all.2 ⟨d, hd, rfl⟩] at h2; cases h2
      · exact (h2 (hl _ (hA.lt d hd))).elim
    · exact (hx (hl _ (hA.lt x X.mem))).elim
  intro k
  induction k with
  | zero =>
    intro n L l a w α h nx ρ lo hi hk I E
    have hl : ∀ i, i < ops.size → Ls l i := fun i hi => allOf (by omega) (by rw [I.size]; exact hi)
    refine ⟨?_, fin hl I E⟩
    cases hr : Region.ready .any ops l with
    | nil => rfl
    | cons i r =>
      obtain ⟨h1, o, ho, _⟩ := mem_ready.1 (show i ∈ Region.ready .any ops l by rw [hr]; simp)
      have hi := (Array.getElem?_eq_some_iff.1 ho).1
      exact (((Ls_not (by rw [I.size]; exact hi)).1 h1) (hl i hi)).elim
  | succ k ih =>
    intro n L l a w α h nx ρ lo hi hk I E
    refine ⟨fun hr => fin (ready_nil hA hpm I.size hr) I E, fun i hi => ?_⟩
    obtain ⟨h1, o, ho, hE⟩ := mem_ready.1 hi
    have his := (Array.getElem?_eq_some_iff.1 ho).1
    obtain ⟨d, hd, rfl⟩ := hA.all i his
    have hil : d.i < l.size := by rw [I.size]; exact his
    have hn := (Ls_not hil).1 h1
    have hcnt : (l.setIfInBounds d.i true).toList.count false ≤ k := by have := count_set hil hn; omega
    have hE : Edges l o := hE
    unfold wpOp
    rw [ho]
    show wpIf P ops o a w _ Q
    obtain ⟨n', L', α', h', nx', ρ', I', E', hst⟩ := advance hA n I E
    have hpk : ∀ k, has d.pm k = true → has L' k = true ∨ (has (lates all) k = true ∧ Ls l k) := fun j hj => by
      rw [(OD_eq hA hd ho).1] at hj
      have hl := edge_has hE hj
      cases r : has L' j with
      | true => exact .inl rfl
      | false =>
        have hjl := Ls_lt hl
        rw [I.size] at hjl
        obtain ⟨y, hy, rfl⟩ := hA.all j hjl
        exact .inr ⟨has_lates.2 ⟨y, hy, I'.zk y hy hl r, rfl⟩, hl⟩
    cases hL : has L' d.i with
    | true => exact I'.stepY hC hA E' hd ho hn hL hE _ Q fun a' w' ρ'' I'' => ih n' hcnt I'' E'
    | false =>
      by_cases hk3 : d.kd = 3
      · exact I'.stepZ hA E' hd ho hn hL hk3 hE _ Q fun a' w' lo' hi' I'' => ih n' hcnt I'' E'
      · rcases hst with ⟨h2, _⟩ | ⟨m, x, q, av, h2, n2, hm, X, hx, g, ⟨k1, k2⟩ | ⟨k1, k2⟩⟩
        · rw [h2, has_all.2 ⟨d, hd, rfl⟩] at hL; cases hL
        · have hdx := k2 d hd hk3 hL fun j hj => (hpk j hj).imp id fun r => r.1
          subst hdx
          have := X.at'; rw [ho] at this; cases this
          exact I'.stepD hC hA X g hn hE _ Q fun a' w' ρ'' I'' => ih m hcnt I'' X.rest
        · exact (k2 d hd hk3 hL fun j hj => (hpk j hj).imp id fun r => ⟨r.1, fun e => hx (by rw [← e]; exact r.2)⟩).elim
/-- A region, drawn or not. -/
theorem region_ok (hm : P.follows .mixedOrders = true) (hC : CallOk P c) {id : Nat} {draw : Bool} {Q : Exit → Act → World → Prop} {ρ : Ren} {α : T AV} {a : Act} {w : World} {h : Hp} {nx : Pa} (H : HR ρ h nx w) (hT : TR ρ α a.tmps) (hnt : nt ≤ a.tmps.size) (e : evR c (cR P nt draw ops) α h nx = .nx αF hF nF)
    (hQ : ∀ ρ' a' w', TR ρ' αF a'.tmps → HR ρ' hF nF w' → Stp ρ h w ρ' hF w' → a'.tmps.size = a.tmps.size → a'.defers = a.defers → Q .normal a' w') : (Code.region id ops draw).wp P Q a w := by
  cases draw with
  | false => exact wp_region_list (seq_ok hC ops.toList H hT hnt e hQ)
  | true =>
    refine wp_region_any hm ?_
    have e : evR c (bif noSel ops then cSc P nt ops (schedR P ops) else badR) α h nx = .nx αF hF nF := e
    cases hs : noSel ops with
    | false => rw [hs] at e; exact (badR_no e).elim
    | true =>
      rw [hs] at e
      have e : evR c (cSc P nt ops ((fun all => bif okPm all then sched all (lates all) 300 0 else .fail) (ods P ops ops.toList 0 []))) α h nx = .nx αF hF nF := e
      have hA : ODs P ops ops.size (ods P ops ops.toList 0 []) := ods_all
      generalize ods P ops ops.toList 0 [] = all at e hA
      simp only at e
      cases hp : okPm all with
      | false => rw [hp] at e; exact (badR_no e).elim
      | true =>
        rw [hp] at e
        have hno : ∀ i, ¬ Ls (Array.replicate ops.size false) i := fun i q => by
          unfold Ls at q
          simp [Array.getD_eq_getD_getElem?, Array.getElem?_replicate] at q
          split at q <;> simp at q
        have hw0 : HR ρ h nx { w with drawn := w.drawn + 1 } := H.heap rfl
        refine any_ok (ρ0 := ρ) (h0 := h) (a0 := a) (w0 := { w with drawn := w.drawn + 1 }) hC hA (okPm_spec hp) (fun ρ' a' w' h1 h2 h3 h4 h5 => hQ ρ' a' w' h1 h2 ⟨h3.ext, h3.os, h3.tape, h3.output, h3.size, h3.keep, h3.own, h3.live⟩ h4 h5) ops.size 300 (L := 0) (ρ := ρ) (lo := fun _ => 0) (hi := fun _ => 0) (by simp) ?_ e
        refine ⟨by simp, fun i o q => (hno i q).elim, fun d _ q => (hno _ q).elim, fun d _ _ q => ?_, fun d _ o _ _ q => ?_, fun d _ o _ _ q => ?_, fun e _ _ q => ?_, fun e _ _ q => ?_, fun z _ o _ q => (hno _ q).elim, fun z _ z' _ q => (hno _ q).elim, fun t v e _ => hT t v e, hw0, Stp.refl _ _ _, hnt, rfl, rfl⟩
        all_goals (rw [has_zero] at q; cases q)
end
end Go.Ev
end

section
open Go
namespace Go.Ev
section
variable {P : Program} {nt : Nat} {c : CallF}
structure Good (ρ : Ren) (h : Hp) (a : Act) (w : World) (ρ' : Ren) (α' : T AV) (h' : Hp) (nx' : Pa) (a' : Act) (w' : World) : Prop where
  tr : TR ρ' α' a'.tmps
  hr : HR ρ' h' nx' w'
  st : Stp ρ h w ρ' h' w'
  sz : a'.tmps.size = a.tmps.size
  df : a'.defers = a.defers
theorem Good.trans {ρ ρ1 ρ2 : Ren} {h h1 h2 : Hp} {a a1 a2 : Act} {w w1 w2 : World} {α1 α2 : T AV} {n1 n2 : Pa} (x : Good ρ h a w ρ1 α1 h1 n1 a1 w1) (y : Good ρ1 h1 a1 w1 ρ2 α2 h2 n2 a2 w2) : Good ρ h a w ρ2 α2 h2 n2 a2 w2 :=
  ⟨y.tr, y.hr, x.st.trans y.st, y.sz.trans x.sz, y.df.trans x.df⟩
/-- Where a run of code may end. -/
def Out (r : Rc) (ρ : Ren) (h : Hp) (a : Act) (w : World) : Exit → Act → World → Prop
  | .normal, a', w' => ∃ α' h' nx' ρ', r = .nx α' h' nx' ∧ Good ρ h a w ρ' α' h' nx' a' w'
  | .exit id, a', w' => ∃ α' h' nx' ρ', r = .ex id α' h' nx' ∧ Good ρ h a w ρ' α' h' nx' a' w'
  | .ret, a', w' => ∃ α' h' nx' ρ', r = .rt α' h' nx' ∧ Good ρ h a w ρ' α' h' nx' a' w'
  | _, _, _ => False
theorem TR.x {ρ : Ren} {α : T AV} {a : Act} (k : TR ρ α a.tmps) : ∀ (x : Operand) (v : AV), eX (xo x) α = some v → V ρ v (a.eval x) := fun x v e => by
  cases x with
  | tmp t => exact k t v e
  | const u =>
    have e : eX (match ofV u with | some v => XO.k v | none => XO.no) α = some v := e
    cases e1 : ofV u with
    | none => rw [e1] at e; cases e
    | some y => rw [e1] at e; cases e; exact ofV_V ρ e1
  | func f => cases e; exact ⟨[], [], rfl, rfl, rfl⟩
  | global g => cases e
theorem evR_ends {h : Hp} : ∀ (r : IR) (α : T AV) (h : Hp) (nx : Pa), (∃ α' h' nx', evR c r α h nx = .nx α' h' nx') ∨ ∃ n, evR c r α h nx = .bad n := by
  intro r
  induction r with
  | nil => exact fun α h nx => .inl ⟨α, h, nx, rfl⟩
  | cons s ag r ih =>
    intro α h nx
    have e : evR c (.cons s ag r) α h nx = (Rv.casesOn (evS c s α h nx) (fun n => Rc.bad n) fun v h nx => List.casesOn ag (evR c r (putD s.dst v α) h nx) fun _ _ => bif again ag (putD s.dst v α) h nx then evR c r (putD s.dst v α) h nx else .bad 66 : Rc) := evR_step c s ag r α h nx
    rw [e]
    cases evS c s α h nx with
    | bad n => exact .inr ⟨n, rfl⟩
    | ok av h1 n1 =>
      cases ag with
      | nil => exact ih _ _ _
      | cons x l =>
        simp only
        cases again (x :: l) (putD s.dst av α) h1 n1 with
        | false => exact .inr ⟨66, rfl⟩
        | true => exact ih _ _ _
theorem then_of {r1 r : Rc} {K : Act → World → Prop} {ρ : Ren} {h : Hp} {a : Act} {w : World} (hn : ∀ α' h' nx' ρ' a' w', r1 = .nx α' h' nx' → Good ρ h a w ρ' α' h' nx' a' w' → K a' w') (he : ∀ id α' h' nx', r1 = .ex id α' h' nx' → r = r1) (hr : ∀ α' h' nx', r1 = .rt α' h' nx' → r = r1) :
    ∀ e a' w', Out r1 ρ h a w e a' w' → Exit.then K (Out r ρ h a w) e a' w' := fun e a' w' ho => by
  cases e with
  | normal => obtain ⟨α', h', nx', ρ', h1, h2⟩ := ho; exact hn _ _ _ _ _ _ h1 h2
  | exit id => obtain ⟨α', h', nx', ρ', h1, h2⟩ := ho; exact ⟨α', h', nx', ρ', (he _ _ _ _ h1).trans h1, h2⟩
  | ret => obtain ⟨α', h', nx', ρ', h1, h2⟩ := ho; exact ⟨α', h', nx', ρ', (hr _ _ _ h1).trans h1, h2⟩
  | goto l => exact ho.elim
  | panic ch => exact ho.elim
  | outgrown => exact ho.elim
theorem Out.shift {r : Rc} {ρ ρ1 : Ren} {h h1 : Hp} {a a1 : Act} {w w1 : World} {α1 : T AV} {n1 : Pa} (g : Good ρ h a w ρ1 α1 h1 n1 a1 w1) : ∀ e a' w', Out r ρ1 h1 a1 w1 e a' w' → Out r ρ h a w e a' w' := fun e a' w' ho => by
  cases e with
  | normal => obtain ⟨α', h', nx', ρ', h1, h2⟩ := ho; exact ⟨α', h', nx', ρ', h1, g.trans h2⟩
  | exit id => obtain ⟨α', h', nx', ρ', h1, h2⟩ := ho; exact ⟨α', h', nx', ρ', h1, g.trans h2⟩
  | ret => obtain ⟨α', h', nx', ρ', h1, h2⟩ := ho; exact ⟨α', h', nx', ρ', h1, g.trans h2⟩
  | goto l => exact ho.elim
  | panic ch => exact ho.elim
  | outgrown => exact ho.elim
theorem rounds_succ' (f : T AV → Hp → Pa → Rc) (n : Nat) (α : T AV) (h : Hp) (nx : Pa) : rounds f (n + 1) α h nx = (Rc.casesOn (f α h nx) (fun n => .bad n) (fun tm h nx => rounds f n tm h nx) (fun id tm h nx => .ex id tm h nx) (fun tm h nx => .rt tm h nx) : Rc) := rfl
theorem rounds_mono {x : Code} {Q Q' : Exit → Act → World → Prop} (h : ∀ e a w, Q e a w → Q' e a w) : ∀ (n : Nat) (a : Act) (w : World), Code.rounds P x Q n a w → Code.rounds P x Q' n a w
  | 0, _, _, q => q
  | n + 1, a, w, q => wp_mono (show x.wp P (Exit.then (Code.rounds P x Q n) Q) a w from q) fun e a' w' r => by
    cases e with
    | normal => exact rounds_mono h n a' w' r
    | exit id => exact h _ _ _ r
    | goto l => exact h _ _ _ r
    | ret => exact h _ _ _ r
    | panic ch => exact h _ _ _ r
    | outgrown => exact h _ _ _ r
theorem loop_ok {x : Code} {f : T AV → Hp → Pa → Rc} (ih : ∀ {ρ : Ren} {α : T AV} {a : Act} {w : World} {h : Hp} {nx : Pa}, HR ρ h nx w → TR ρ α a.tmps → nt ≤ a.tmps.size → (∀ n, f α h nx ≠ .bad n) → x.wp P (Out (f α h nx) ρ h a w) a w) :
    ∀ (n : Nat) {ρ : Ren} {α : T AV} {a : Act} {w : World} {h : Hp} {nx : Pa}, HR ρ h nx w → TR ρ α a.tmps → nt ≤ a.tmps.size → (∀ k, rounds f n α h nx ≠ .bad k) → Code.rounds P x (Out (rounds f n α h nx) ρ h a w) n a w := by
  intro n
  induction n with
  | zero => intro ρ α a w h nx H hT hnt hb; exact (hb 69 rfl).elim
  | succ n ihn =>
    intro ρ α a w h nx H hT hnt hb
    rw [rounds_succ'] at hb ⊢
    have hx := ih H hT hnt (fun n q => hb n (by rw [q]))
    revert hx hb
    generalize f α h nx = r1
    intro hb hx
    rw [rounds_succ]
    refine wp_mono hx (then_of (fun α' h' nx' ρ' a' w' q g => ?_) (fun id α' h' nx' q => by rw [q]) (fun α' h' nx' q => by rw [q]))
    subst q
    exact rounds_mono (Out.shift g) n a' w' (ihn g.hr g.tr (by rw [g.sz]; exact hnt) hb)
theorem code_ok (hm : P.follows .mixedOrders = true) (hC : CallOk P c) : ∀ (k : Code) {ρ : Ren} {α : T AV} {a : Act} {w : World} {h : Hp} {nx : Pa}, HR ρ h nx w → TR ρ α a.tmps → nt ≤ a.tmps.size → (∀ n, evC (cC P nt k) c α h nx ≠ .bad n) →
    k.wp P (Out (evC (cC P nt k) c α h nx) ρ h a w) a w := by
  intro k
  induction k with
  | skip => exact fun {ρ α a w h nx} H hT hnt hb => wp_skip ⟨α, h, nx, ρ, rfl, hT, H, Stp.refl _ _ _, rfl, rfl⟩
  | region id ops draw =>
    intro ρ α a w h nx H hT hnt hb
    have e : evC (cC P nt (.region id ops draw)) c α h nx = evR c (cR P nt draw ops) α h nx := rfl
    rw [e] at hb ⊢
    rcases evR_ends (h := h) (cR P nt draw ops) α h nx (c := c) with ⟨α', h', nx', e1⟩ | ⟨n, e1⟩
    · rw [e1]
      exact region_ok hm hC H hT hnt e1 fun ρ' a' w' h1 h2 h3 h4 h5 => ⟨α', h', nx', ρ', rfl, h1, h2, h3, h4, h5⟩
    · exact (hb n e1).elim
  | seq x y ihx ihy =>
    intro ρ α a w h nx H hT hnt hb
    have e : evC (cC P nt (.seq x y)) c α h nx = (Rc.casesOn (evC (cC P nt x) c α h nx) (fun n => .bad n) (fun tm h nx => evC (cC P nt y) c tm h nx) (fun id tm h nx => .ex id tm h nx) (fun tm h nx => .rt tm h nx) : Rc) := rfl
    rw [e] at hb ⊢
    have hx := ihx H hT hnt (fun n q => hb n (by rw [q]))
    revert hx hb
    generalize evC (cC P nt x) c α h nx = r1
    intro hb hx
    refine wp_seq (wp_mono hx (then_of (fun α' h' nx' ρ' a' w' q g => ?_) (fun id α' h' nx' q => by rw [q]) (fun α' h' nx' q => by rw [q])))
    subst q
    exact wp_mono (ihy g.hr g.tr (by rw [g.sz]; exact hnt) hb) (Out.shift g)
  | cond x y z ihy ihz =>
    intro ρ α a w h nx H hT hnt hb
    have e : evC (cC P nt (.cond x y z)) c α h nx = (Option.casesOn (eX (xo x) α) (.bad 67) fun v => match v with | .b t => bif t then evC (cC P nt y) c α h nx else evC (cC P nt z) c α h nx | _ => .bad 68 : Rc) := rfl
    rw [e] at hb ⊢
    cases e1 : eX (xo x) α with
    | none => rw [e1] at hb; exact (hb _ rfl).elim
    | some v =>
      rw [e1] at hb
      have hv := hT.x x v e1
      simp only at hb ⊢
      split at hb
      · rename_i t
        refine wp_cond (t := t) hv ?_
        cases t with
        | true => exact ihy H hT hnt hb
        | false => exact ihz H hT hnt hb
      · exact (hb _ rfl).elim
  | block id x ih =>
    intro ρ α a w h nx H hT hnt hb
    have e : evC (cC P nt (.block id x)) c α h nx = (Rc.casesOn (evC (cC P nt x) c α h nx) (fun n => .bad n) (fun tm h nx => .nx tm h nx) (fun j tm h nx => bif Nat.beq j id then .nx tm h nx else .ex j tm h nx) (fun tm h nx => .rt tm h nx) : Rc) := rfl
    rw [e] at hb ⊢
    have hx := ih H hT hnt (fun n q => hb n (by rw [q]))
    revert hx hb
    generalize evC (cC P nt x) c α h nx = r1
    intro hb hx
    refine wp_block (wp_mono hx fun ex a' w' ho => ?_)
    cases ex with
    | normal => obtain ⟨α', h', nx', ρ', h1, h2⟩ := ho; subst h1; exact ⟨α', h', nx', ρ', rfl, h2⟩
    | exit j =>
      obtain ⟨α', h', nx', ρ', h1, h2⟩ := ho
      subst h1
      show if j = id then _ else _
      by_cases hj : j = id
      · subst hj; rw [if_pos rfl]; exact ⟨α', h', nx', ρ', by simp only [Nat.beq_refl, cond_true], h2⟩
      · rw [if_neg hj]
        have : Nat.beq j id = false := by cases q : Nat.beq j id with | false => rfl | true => exact absurd (Nat.eq_of_beq_eq_true q) hj
        exact ⟨α', h', nx', ρ', by simp only [this, cond_false], h2⟩
    | ret => obtain ⟨α', h', nx', ρ', h1, h2⟩ := ho; subst h1; exact ⟨α', h', nx', ρ', rfl, h2⟩
    | goto l => exact ho.elim
    | panic ch => exact ho.elim
    | outgrown => exact ho.elim
  | loop x ih =>
    intro ρ α a w h nx H hT hnt hb
    have e : evC (cC P nt (.loop x)) c α h nx = rounds (evC (cC P nt x) c) 1000000 α h nx := rfl
    rw [e] at hb ⊢
    clear e
    exact wp_loop_rounds 1000000 (loop_ok (fun H hT hnt hb => ih H hT hnt hb) 1000000 H hT hnt hb)
  | exit id => exact fun {ρ α a w h nx} H hT hnt hb => wp_exit ⟨α, h, nx, ρ, rfl, hT, H, Stp.refl _ _ _, rfl, rfl⟩
  | ret => exact fun {ρ α a w h nx} H hT hnt hb => wp_ret ⟨α, h, nx, ρ, rfl, hT, H, Stp.refl _ _ _, rfl, rfl⟩
  | _ => exact fun {ρ α a w h nx} H hT hnt hb => (hb 70 rfl).elim
end
end Go.Ev
end

section
open Go
namespace Go.Ev
section
variable {P : Program}
/-- What stands in for a function's code. -/
def HookOk (P : Program) (hk : Nat → Option Hook) : Prop := ∀ f g, hk f = some g → ∀ args h nx av h' nx' ρ w vs, HR ρ h nx w → Vs ρ args vs → g args h nx = .ok av h' nx' →
  Calls P f vs.toArray w (fun e w' => ∃ ρ' v, e = .returned v ∧ V ρ' av v ∧ HR ρ' h' nx' w' ∧ Stp ρ h w ρ' h' w')
theorem TR_put {ρ : Ren} {tmps : Array Value} : ∀ (l : AV) (vs : List Value), Vs ρ l vs → ∀ (off : Nat) (tr : T AV), TR ρ tr tmps → (∀ j v, vs[j]? = some v → tmps.getD (off + j) undef = v) → TR ρ (putCells l off tr) tmps := by
  refine Vs_ind (fun off tr h _ => h) fun x y v r h1 h2 ih off tr h hj => ?_
  have e : putCells (.cn x y) off tr = putCells y (off + 1) (setP (some x) (path off) tr) := by
    show force off (fun off => putCells y (Nat.succ off) (setP (some x) (path off) tr)) = _; rw [force_eq]
  rw [e]
  refine ih (off + 1) _ (fun t u q => ?_) (fun j u q => ?_)
  · rcases get_set' (some x) (path t) (path off) tr with ⟨g1, g2⟩ | ⟨g1, g2⟩
    · rw [g1] at q; cases q
      have := hj 0 v rfl
      rw [path_inj g2, show off = off + 0 from rfl, this]; exact h1
    · rw [g1] at q; exact h t u q
  · have := hj (j + 1) u (by simpa using q)
    rw [← this, show off + 1 + j = off + (j + 1) by omega]
theorem TR_enter {ρ : Ren} {l : AV} {vs : List Value} (h : Vs ρ l vs) (n : Nat) : TR ρ (enter l 0 .lf) (vs.toArray ++ Array.replicate n undef) := by
  refine TR_put l vs h 0 .lf (fun t v e => by rw [getP_lf] at e; cases e) fun j v e => ?_
  have hj : j < vs.length := (List.getElem?_eq_some_iff.1 e).1
  rw [Array.getD_eq_getD_getElem?, Nat.zero_add, Array.getElem?_append_left (by simpa using hj)]
  simp [e]
def okR1 (P : Program) (x : ResultVar) : Bool := match x with | .tmp _ => true | .cell _ t => (match P.underlying t with | some _ => true | none => false)
noncomputable def res1 (P : Program) (x : ResultVar) : RO := match x with | .tmp t => .t (path t) | .cell a t => .c (path a) (aggT P t) (szT P t)
def get1 (tmps : Array Value) (x : ResultVar) : Sem Value := match x with | .tmp t => pure (tmps.getD t undef) | .cell a t => do loadVar t (← asAddr (tmps.getD a undef))
/-- A result's place. -/
theorem out1_ok {ρ : Ren} {α : T AV} {tmps : Array Value} {h : Hp} {nx : Pa} {w : World} (H : HR ρ h nx w) (hT : TR ρ α tmps) (x : ResultVar) (hx : okR1 P x = true) {v : AV} (e : out1 (res1 P x) α h = some v) :
    ∃ u, V ρ v u ∧ (get1 tmps x).run P w = .ok u w := by
  have ho : ∀ {a : AV} {u : Value} {k : AV → Hp → Pa → Rv} {v : AV}, rvO (k a h .e) = some v → ∃ h' n', k a h .e = .ok v h' n' := fun {a u k v} e => by
    cases q : k a h .e with
    | bad n => rw [q] at e; cases e
    | ok y h' n' => rw [q] at e; cases e; exact ⟨h', n', rfl⟩
  cases x with
  | tmp t => exact ⟨_, hT t v e, rfl⟩
  | cell a t =>
    have e : (Option.casesOn (getP (path a) α) none fun x => bif aggT P t then rvO (oLda (szT P t) x h .e) else rvO (oLd x h .e) : Option AV) = some v := e
    cases e1 : getP (path a) α with
    | none => rw [e1] at e; cases e
    | some x =>
      rw [e1] at e
      have hv := hT a x e1
      cases hd : P.underlying t with
      | none => simp only [okR1, hd] at hx; cases hx
      | some d =>
        cases hg : aggT P t with
        | true =>
          rw [hg] at e
          obtain ⟨h', n', e2⟩ := ho (u := undef) e
          have e2 : oLda (szT P t) x h nx = .ok v h nx := by
            unfold oLda at e2 ⊢
            split at e2
            · rename_i id off
              cases e3 : getP id h with
              | none => rw [e3] at e2; cases e2
              | some b =>
                rw [e3] at e2
                cases b with
                | ce tr n rw' pl =>
                  simp only at e2 ⊢
                  cases e4 : cells tr (szT P t) off with
                  | none => rw [e4] at e2; cases e2
                  | some y => rw [e4] at e2; cases e2; rfl
                | mp _ _ => cases e2
                | ch _ _ _ _ => cases e2
                | it _ _ _ _ => cases e2
            · cases e2
          obtain ⟨g, off, vs, h1, h2, h3, h4, _⟩ := oLda_run H hv e2
          refine ⟨_, h4, ?_⟩
          simp only [get1, Sem.run_bind, h1, asAddr, Sem.run_pure, Result.andThen_ok]
          exact loadVar_agg hd hg h2 h3
        | false =>
          rw [hg] at e
          obtain ⟨h', n', e2⟩ := ho (u := undef) e
          have e2 : oLd x h nx = .ok v h nx := by
            unfold oLd at e2 ⊢
            split at e2
            · rename_i id off
              cases e3 : getP id h with
              | none => rw [e3] at e2; cases e2
              | some b =>
                rw [e3] at e2
                cases b with
                | ce tr n rw' pl =>
                  simp only at e2 ⊢
                  cases e4 : getP (path off) tr with
                  | none => rw [e4] at e2; cases e2
                  | some y => rw [e4] at e2; cases e2; rfl
                | mp _ _ => cases e2
                | ch _ _ _ _ => cases e2
                | it _ _ _ _ => cases e2
            · cases e2
          obtain ⟨ad, u, h1, h2, h3, _⟩ := oLd_run H hv e2
          refine ⟨u, h3, ?_⟩
          simp [get1, Sem.run_bind, h1, asAddr, loadVar, isAgg_run hd, hg, h2]
theorem outs_ok {ρ : Ren} {α : T AV} {tmps : Array Value} {h : Hp} {nx : Pa} {w : World} (H : HR ρ h nx w) (hT : TR ρ α tmps) : ∀ (l : List ResultVar), okRes P l = true → ∀ {v : AV}, outs (cRes P l) α h = some v →
    ∃ us, Vs ρ v us ∧ (l.mapM (get1 tmps)).run P w = .ok us w
  | [], _, v, e => by cases e; exact ⟨[], rfl, rfl⟩
  | x :: l, ho, v, e => by
    obtain ⟨h1, h2⟩ := and_ok (show (okR1 P x && okRes P l) = true from ho)
    have e : (Option.casesOn (out1 (res1 P x) α h) none fun v => Option.casesOn (outs (cRes P l) α h) none fun r => some (.cn v r) : Option AV) = some v := e
    cases e1 : out1 (res1 P x) α h with
    | none => rw [e1] at e; cases e
    | some y =>
      rw [e1] at e
      cases e2 : outs (cRes P l) α h with
      | none => rw [e2] at e; cases e
      | some r =>
        rw [e2] at e; cases e
        obtain ⟨u, h3, h4⟩ := out1_ok H hT x h1 e1
        obtain ⟨us, h5, h6⟩ := outs_ok H hT l h2 e2
        refine ⟨u :: us, ⟨u, us, rfl, h3, h5⟩, ?_⟩
        rw [List.mapM_cons]
        simp only [Sem.run_bind, h4, h6, Result.andThen_ok, Sem.run_pure]
theorem results_ok {ρ : Ren} {α : T AV} {tmps : Array Value} {h : Hp} {nx : Pa} {w : World} (H : HR ρ h nx w) (hT : TR ρ α tmps) {fn : Func} (ho : okRes P fn.results.toList = true) {v : AV} (e : outV (cRes P fn.results.toList) α h = some v) :
    ∃ u, V ρ v u ∧ (results fn tmps).run P w = .ok u w := by
  have e : (Option.casesOn (outs (cRes P fn.results.toList) α h) none fun r => some (one r) : Option AV) = some v := e
  cases e1 : outs (cRes P fn.results.toList) α h with
  | none => rw [e1] at e; cases e
  | some r =>
    rw [e1] at e; cases e
    obtain ⟨us, h1, h2⟩ := outs_ok H hT _ ho e1
    have h3 : (results fn tmps).run P w = .ok (if h : us.toArray.size = 1 then us.toArray[0] else .tuple us.toArray) w := by
      show Sem.run P (do let vs ← fn.results.mapM (get1 tmps); pure (if h : vs.size = 1 then vs[0] else .tuple vs)) w = _
      rw [Array.mapM_eq_mapM_toList]
      simp only [Sem.run_bind, map_eq_pure_bind, h2, Result.andThen_ok, Sem.run_pure]
    have hone : V ρ (one r) (if h : us.toArray.size = 1 then us.toArray[0] else .tuple us.toArray) := by
      cases r with
      | nl => cases (show us = [] from h1); exact ⟨[], rfl, rfl⟩
      | cn x y =>
        obtain ⟨u, t, rfl, h4, h5⟩ := h1
        cases y with
        | nl => cases (show t = [] from h5); exact h4
        | cn y z =>
          obtain ⟨u', t', rfl, h6, h7⟩ := h5
          rw [dif_neg (by simp)]
          exact ⟨_, ⟨u, u' :: t', rfl, h4, u', t', rfl, h6, h7⟩, rfl⟩
        | _ => exact h5.elim
      | _ => exact h1.elim
    exact ⟨_, hone, h3⟩
theorem run_succ (okf : Nat → Bool) (hk : Nat → Option Hook) (fn : Nat → Option IF) (n : Nat) (f : Nat) (a : AV) (h : Hp) (nx : Pa) : run okf hk fn (n + 1) f a h nx = (bif okf f then
  Option.casesOn (hk f) (Option.casesOn (fn f) (.bad (Nat.add 740000 f)) fun g => fin g.res (evC g.body (run okf hk fn n) (enter a 0 .lf) h nx)) (fun g => g a h nx) else .bad 75 : Rv) := rfl
/-- Every call comes about as it was reckoned. -/
theorem run_ok (hm : P.follows .mixedOrders = true) {hk : Nat → Option Hook} (hh : HookOk P hk) : ∀ n, CallOk P (runP P hk n)
  | 0 => fun f args h nx av h' nx' ρ w vs _ _ e => by
    have e : Rv.bad 73 = .ok av h' nx' := e
    cases e
  | n + 1 => fun f args h nx av h' nx' ρ w vs H hv e => by
    have e : run (okFn P) hk (cF P) (n + 1) f args h nx = .ok av h' nx' := e
    rw [run_succ] at e
    cases ho : okFn P f with
    | false => rw [ho] at e; cases e
    | true =>
      rw [ho] at e
      refine ⟨rfl, ?_⟩
      simp only [cond_true] at e
      cases hf : hk f with
      | some g => rw [hf] at e; exact hh f g hf args h nx av h' nx' ρ w vs H hv e
      | none =>
        rw [hf] at e
        simp only at e
        cases hF : cF P f with
        | none => rw [hF] at e; cases e
        | some g =>
          rw [hF] at e
          simp only at e
          unfold cF at hF
          cases h1 : P.funcs[f]? with
          | none => rw [h1] at hF; cases hF
          | some fn =>
            simp only [h1] at hF
            cases h2 : fn.body with
            | none => simp only [h2] at hF; cases hF
            | some b =>
              simp only [h2] at hF
              cases h3 : okRes P fn.results.toList with
              | false => rw [h3] at hF; cases hF
              | true =>
                rw [h3] at hF
                cases hF
                refine calls_of_wp h1 h2 ?_
                have hT : TR ρ (enter args 0 .lf) (vs.toArray ++ Array.replicate (fn.ntmps - vs.toArray.size) undef) := TR_enter hv _
                have hE : ∀ n', evC (cC P fn.ntmps b) (run (okFn P) hk (cF P) n) (enter args 0 .lf) h nx ≠ .bad n' := fun n' q => by
                  rw [q] at e; cases e
                refine wp_mono (code_ok (nt := fn.ntmps) hm (run_ok hm hh n) b (a := { tmps := vs.toArray ++ Array.replicate (fn.ntmps - vs.toArray.size) undef, defers := [] }) H hT (by simp; omega) hE) fun x a' w' q => ?_
                have fine : ∀ {α' : T AV} {h1 : Hp} {n1 : Pa} {ρ' : Ren}, Good ρ h { tmps := vs.toArray ++ Array.replicate (fn.ntmps - vs.toArray.size) undef, defers := [] } w ρ' α' h1 n1 a' w' → (Option.casesOn (outV (cRes P fn.results.toList) α' h1) (.bad 71) fun v => .ok v h1 n1 : Rv) = .ok av h' nx' →
                    a'.defers = [] ∧ ∃ v, (results fn a'.tmps).run P w' = .ok v w' ∧ ∃ ρ' v', Ending.returned v = .returned v' ∧ V ρ' av v' ∧ HR ρ' h' nx' w' ∧ Stp ρ h w ρ' h' w' := fun {α' h1 n1 ρ'} g e => by
                  cases e1 : outV (cRes P fn.results.toList) α' h1 with
                  | none => rw [e1] at e; cases e
                  | some v =>
                    rw [e1] at e; cases e
                    obtain ⟨u, h4, h5⟩ := results_ok g.hr g.tr h3 e1
                    exact ⟨g.df, u, h5, ρ', u, rfl, h4, g.hr, g.st⟩
                cases x with
                | normal => obtain ⟨α', h1, n1, ρ', q1, q2⟩ := q; exact fine q2 (by have e : fin (cRes P fn.results.toList) (evC (cC P fn.ntmps b) (run (okFn P) hk (cF P) n) (enter args 0 .lf) h nx) = .ok av h' nx' := e; unfold runP at q1; rw [q1] at e; exact e)
                | ret => obtain ⟨α', h1, n1, ρ', q1, q2⟩ := q; exact fine q2 (by have e : fin (cRes P fn.results.toList) (evC (cC P fn.ntmps b) (run (okFn P) hk (cF P) n) (enter args 0 .lf) h nx) = .ok av h' nx' := e; unfold runP at q1; rw [q1] at e; exact e)
                | exit id =>
                  obtain ⟨α', h1, n1, ρ', q1, q2⟩ := q
                  have e : fin (cRes P fn.results.toList) (evC (cC P fn.ntmps b) (run (okFn P) hk (cF P) n) (enter args 0 .lf) h nx) = .ok av h' nx' := e
                  unfold runP at q1; rw [q1] at e; cases e
                | goto l => exact q.elim
                | panic ch => exact q.elim
                | outgrown => exact q.elim
end
end Go.Ev
end

section
open Go
namespace Go.Ev
section
variable {P : Program}
/-- One function's hook. -/
def HookAt (P : Program) (f : Nat) (g : Hook) : Prop := ∀ args h nx av h' nx' ρ w vs, HR ρ h nx w → Vs ρ args vs → g args h nx = .ok av h' nx' →
  Calls P f vs.toArray w (fun e w' => ∃ ρ' v, e = .returned v ∧ V ρ' av v ∧ HR ρ' h' nx' w' ∧ Stp ρ h w ρ' h' w')
theorem HookOk.none : HookOk P (fun _ => none) := fun f g e => by cases e
/-- Hooks in a tree. -/
theorem hook_add {t : T Hook} (h : HookOk P fun f => getP (path f) t) {f : Nat} {g : Hook} (k : HookAt P f g) : HookOk P fun f' => getP (path f') (setP (some g) (path f) t) := fun f' g' e => by
  replace e : getP (path f') (setP (some g) (path f) t) = some g' := e
  rcases get_set' (some g) (path f') (path f) t with ⟨h1, h2⟩ | ⟨h1, h2⟩
  · rw [h1] at e; cases e; rw [path_inj h2]; exact k
  · rw [h1] at e; exact h f' g' e
theorem hook_lf : HookOk P fun f => getP (path f) (T.lf : T Hook) := fun f g e => by
  replace e : getP (path f) (T.lf : T Hook) = some g := e
  rw [getP_lf] at e; cases e
/-- The same value, nothing written. -/
theorem hook_same {ρ : Ren} {h : Hp} {nx : Pa} {w : World} (H : HR ρ h nx w) {v : Value} {av : AV} (hv : V ρ av v) : ∃ ρ' v', Ending.returned v = .returned v' ∧ V ρ' av v' ∧ HR ρ' h nx w ∧ Stp ρ h w ρ' h w := ⟨ρ, v, rfl, hv, H, Stp.refl _ _ _⟩
/-- A function that asks for nothing, run from an empty memory: what it answers (if it has no place in it), it answers anywhere. -/
def flat0 (a : AV) : Bool := match a with | .b _ => true | .i _ _ => true | .s _ => true | _ => false
theorem flat0_V {a : AV} (h : flat0 a = true) {ρ ρ' : Ren} {v : Value} (k : V ρ a v) : V ρ' a v := by
  cases a <;> first | exact k | cases h
theorem hook_closed {c : CallF} (hC : CallOk P c) {f : Nat} {v : AV} {h1 : Hp} {n1 : Pa} (e : c f .nl .lf .e = .ok v h1 n1) (hv : flat0 v = true) : HookAt P f (fun a h nx => match a with | .nl => .ok v h nx | _ => .bad 140) := fun args h nx av h' nx' ρ w vs H hvs e' => by
  cases args with
  | nl =>
    obtain ⟨rfl, rfl, e3⟩ := ok3 e'
    cases (show vs = [] from hvs)
    have H0 : HR (fun _ => none) .lf .e w := ⟨fun id p q => (by cases q), fun id b q => (by rw [getP_lf] at q; cases q), fun id id' b b' g t t' q => (by rw [getP_lf] at q; cases q)⟩
    refine Calls.mono (hC f .nl .lf .e v h1 n1 _ w [] H0 rfl e).2 fun x w' ⟨ρ', u, k1, k2, k3, k4⟩ => ?_
    have hk : ∀ g, g < w.heap.size → w'.heap[g]? = w.heap[g]? := fun g hg => k4.keep g hg fun ⟨id, b, t, q, _⟩ => by rw [getP_lf] at q; cases q
    exact ⟨ρ, u, k1, (by rw [e3]; exact flat0_V hv k2), ⟨H.dom, fun id b q => by obtain ⟨g, t, q1, q2⟩ := H.blk id b q; exact ⟨g, t, q1, BR_mono (Ext.refl ρ) (hk g q2.lt) q2⟩, H.inj⟩, ⟨Ext.refl ρ, k4.os, k4.tape, k4.output, k4.size, fun g hg _ => hk g hg, fun g q => .inl q, fun g q => .inl q⟩⟩
  | _ => cases e'
end
end Go.Ev
end

section
open Go
namespace Go.Ev
section
variable {P : Program}
theorem chOf_ok {ρ : Ren} {h : Hp} {nx : Pa} {w : World} (H : HR ρ h nx w) {ch : Pa} {q : Nat × AV × Nat × Nat} (e : chOf (.c ch) h = some q) {c t : Nat} (hc : ρ ch = some (c, t)) :
    getP ch h = some (.ch q.1 q.2.1 q.2.2.1 q.2.2.2) ∧ ∃ b, w.heap[c]? = some (.chan q.1 b.toArray false q.2.2.1 q.2.2.2 false) ∧ Vs ρ q.2.1 b := by
  have e : (Option.casesOn (getP ch h) none fun b => Blk.casesOn b (fun _ _ _ _ => none) (fun _ _ => none) (fun c l s r => some (c, l, s, r)) (fun _ _ _ _ => none) : Option (Nat × AV × Nat × Nat)) = some q := e
  cases e1 : getP ch h with
  | none => rw [e1] at e; cases e
  | some b =>
    rw [e1] at e
    cases b with
    | ch c' l s r => cases e; exact ⟨rfl, getP_ch H e1 hc⟩
    | ce _ _ _ _ => cases e
    | mp _ _ => cases e
    | it _ _ _ _ => cases e
theorem cellOf_ok {ρ : Ren} {h : Hp} {nx : Pa} {w : World} (H : HR ρ h nx w) {id : Pa} {off : Nat} {v : AV} (e : cellOf id off h = some v) {g t : Nat} (hg : ρ id = some (g, t)) : ∃ u, w.cell? ⟨g, off, none⟩ = some u ∧ V ρ v u := by
  have e : (Option.casesOn (getP id h) none fun b => Blk.casesOn b (fun t _ _ _ => getP (path off) t) (fun _ _ => none) (fun _ _ _ _ => none) (fun _ _ _ _ => none) : Option AV) = some v := e
  cases e1 : getP id h with
  | none => rw [e1] at e; cases e
  | some b =>
    rw [e1] at e
    cases b with
    | ce tr n rw' pl =>
      obtain ⟨c, ty, fz, h1, h2, h3, h4, -⟩ := getP_ce H e1 hg
      obtain ⟨_, u, h5, h6⟩ := h4 off v e
      exact ⟨u, by rw [cell_of h1]; exact h5, h6⟩
    | mp _ _ => cases e
    | ch _ _ _ _ => cases e
    | it _ _ _ _ => cases e
/-- A store of one cell. -/
theorem oSt1_run {ρ : Ren} {h : Hp} {nx : Pa} {w : World} (H : HR ρ h nx w) {id : Pa} {off : Nat} {k : IntKind} {m : Int} {av : AV} {h' : Hp} {nx' : Pa} {g t : Nat} (hg : ρ id = some (g, t)) (e : oSt 1 (.p id off) (.i k m) h nx = .ok av h' nx') :
    av = .tp .nl ∧ nx' = nx ∧ w.frozen? ⟨g, off, none⟩ = false ∧ HR ρ h' nx (w.setCell ⟨g, off, none⟩ (.int k m)) ∧ Stp ρ h w ρ h' (w.setCell ⟨g, off, none⟩ (.int k m)) := by
  have e : (Option.casesOn (getP id h) (.bad 11) fun b => Blk.casesOn b (fun t n rw pl => bif rw && flatA (AV.toCells (.i k m)) && Nat.beq (sizeA (AV.toCells (.i k m))) 1 && Nat.ble (off + 1) n then .ok (.tp .nl) (setP (some (.ce (putCells (AV.toCells (.i k m)) off t) n true pl)) id h) nx else .bad 12) (fun _ _ => .bad 11) (fun _ _ _ _ => .bad 11) (fun _ _ _ _ => .bad 11) : Rv) = .ok av h' nx' := e
  cases e1 : getP id h with
  | none => rw [e1] at e; cases e
  | some b =>
    rw [e1] at e
    cases b with
    | ce tr n rw' pl =>
      replace ⟨q, e⟩ := cut1 e (noBad _)
      obtain ⟨rfl, q2, q3, q4⟩ := and4 q
      obtain ⟨rfl, rfl, rfl⟩ := ok3 e
      have q4 := Nat.le_of_ble_eq_true q4
      obtain ⟨c, ty, fz, h1, h2, h3, -, h5, -⟩ := getP_ce H e1 hg
      obtain ⟨_, r2, r3⟩ := H.put (P := default) (off := off) e1 hg (l := AV.toCells (.i k m)) (vs := [.int k m]) (show Vs ρ (AV.toCells (.i k m)) [.int k m] from ⟨.int k m, [], rfl, rfl, rfl⟩) q2 (Nat.le_refl n) h3 (by simp; omega)
      refine ⟨rfl, rfl, ?_, r2, r3⟩
      have := h5 rfl
      simp only [World.frozen?, h1]
      simp only [Bool.and_eq_false_iff, decide_eq_false_iff_not]
      by_cases q : fz.1 ≤ off
      · exact .inr (fun r => by omega)
      · exact .inl q
    | mp _ _ => cases e
    | ch _ _ _ _ => cases e
    | it _ _ _ _ => cases e
/-- Nothing that was there has changed. -/
structure Gr (w w' : World) : Prop where
  os : w'.os = w.os
  tape : w'.tape = w.tape
  output : w'.output = w.output
  size : w.heap.size ≤ w'.heap.size
  keep : ∀ k, k < w.heap.size → w'.heap[k]? = w.heap[k]?
theorem Gr.refl (w : World) : Gr w w := ⟨rfl, rfl, rfl, Nat.le_refl _, fun _ _ => rfl⟩
theorem HR.gr {ρ : Ren} {h : Hp} {nx : Pa} {w w' : World} (H : HR ρ h nx w) (g : Gr w w') : HR ρ h nx w' ∧ Stp ρ h w ρ h w' :=
  ⟨⟨H.dom, fun id b e => by obtain ⟨k, t, h1, h2⟩ := H.blk id b e; exact ⟨k, t, h1, BR_mono (Ext.refl ρ) (g.keep k h2.lt) h2⟩, H.inj⟩,
    ⟨Ext.refl ρ, g.os, g.tape, g.output, g.size, fun k hk _ => g.keep k hk, fun _ h => .inl h, fun _ h => .inl h⟩⟩
/-- A channel written, and what was there else as it was. -/
structure ChG (w w' : World) (c cap : Nat) (buf : Array Value) (s r : Nat) : Prop where
  os : w'.os = w.os
  tape : w'.tape = w.tape
  output : w'.output = w.output
  size : w.heap.size ≤ w'.heap.size
  keep : ∀ k, k < w.heap.size → k ≠ c → w'.heap[k]? = w.heap[k]?
  chan : w'.heap[c]? = some (.chan cap buf false s r false)
theorem ChG.set {w : World} {c cap : Nat} {buf : Array Value} {s r : Nat} (hc : c < w.heap.size) : ChG w (w.setChan c cap buf false s r false) c cap buf s r :=
  ⟨rfl, rfl, rfl, by simp [World.setChan], fun k _ hk => by simp only [World.setChan]; rw [Array.getElem?_setIfInBounds_ne (Ne.symm hk)], by simp [World.setChan, hc]⟩
theorem setChan_HR {ρ : Ren} {h : Hp} {nx : Pa} {w w' : World} (H : HR ρ h nx w) {ch : Pa} {cap s r s' r' : Nat} {l l' : AV} (e : getP ch h = some (.ch cap l s r)) {c t : Nat} (hc : ρ ch = some (c, t)) {b : List Value} (hb : Vs ρ l' b) (g : ChG w w' c cap b.toArray s' r') :
    HR ρ (setP (some (.ch cap l' s' r')) ch h) nx w' ∧ Stp ρ h w ρ (setP (some (.ch cap l' s' r')) ch h) w' := by
  refine ⟨⟨H.dom, fun i b' e' => ?_, fun i i' b1 b2 k t1 t2 e1 e2 e3 e4 => ?_⟩, Ext.refl ρ, g.os, g.tape, g.output, g.size, fun k hk hn => g.keep k hk fun q => hn (by subst q; exact ⟨ch, _, t, e, rfl, hc⟩), fun k ⟨i, b', s, e1, e2, e3⟩ => ?_, fun k ⟨i, b', s, e1, e3⟩ => ?_⟩
  · rcases get_set' (some (Blk.ch cap l' s' r')) i ch h with ⟨h4, h5⟩ | ⟨h4, h5⟩
    · rw [h4] at e'; cases e'; subst h5; exact ⟨c, t, hc, b, g.chan, hb⟩
    · rw [h4] at e'
      obtain ⟨k, s, h6, h7⟩ := H.blk i b' e'
      exact ⟨k, s, h6, BR_mono (Ext.refl ρ) (g.keep k h7.lt (fun q => h5 (H.inj i ch b' _ c s t e' e (by rw [h6, q]) hc))) h7⟩
  · have aux : ∀ i b', getP i (setP (some (Blk.ch cap l' s' r')) ch h) = some b' → ∃ b', getP i h = some b' := fun i b' q => by
      rcases get_set' (some (Blk.ch cap l' s' r')) i ch h with ⟨_, h5⟩ | ⟨h4, _⟩
      · exact ⟨_, by rw [h5]; exact e⟩
      · exact ⟨b', by rw [← h4]; exact q⟩
    obtain ⟨d, e5⟩ := aux i b1 e1
    obtain ⟨d', e6⟩ := aux i' b2 e2
    exact H.inj i i' d d' k t1 t2 e5 e6 e3 e4
  · rcases get_set' (some (Blk.ch cap l' s' r')) i ch h with ⟨_, h5⟩ | ⟨h4, _⟩
    · subst h5; exact .inl ⟨i, _, s, e, rfl, e3⟩
    · exact .inl ⟨i, b', s, by rw [← h4]; exact e1, e2, e3⟩
  · rcases get_set' (some (Blk.ch cap l' s' r')) i ch h with ⟨_, h5⟩ | ⟨h4, _⟩
    · subst h5; exact .inl ⟨i, _, s, e, e3⟩
    · exact .inl ⟨i, b', s, by rw [← h4]; exact e1, e3⟩
theorem hput_at {f : Nat} {okx : AV → Bool} {okv : Value → Prop} (hok : ∀ ρ x v, okx x = true → V ρ x v → okv v)
    (room : ∀ (p c cap s r : Nat) (buf : Array Value) (x : Value) (w : World), okv x → w.heap[c]? = some (.chan cap buf false s r false) → buf.size < cap →
      Calls P f #[.pointer (some ⟨p, 0, none⟩), .chan (some c), x] w fun e w' => e = .returned (.bool true) ∧ ChG w w' c cap (buf.push x) (s + 1) r)
    (full : ∀ (p c cap s r : Nat) (buf : Array Value) (x : Value) (n : Int) (w : World), okv x → w.heap[c]? = some (.chan cap buf false s r false) → cap ≤ buf.size → w.cell? ⟨p, 2, none⟩ = some (.int .i64 n) → w.frozen? ⟨p, 2, none⟩ = false → IntKind.i64.wrap (n + 1) = n + 1 →
      Calls P f #[.pointer (some ⟨p, 0, none⟩), .chan (some c), x] w fun e w' => e = .returned (.bool false) ∧ ∃ w1, Gr w w1 ∧ w' = w1.setCell ⟨p, 2, none⟩ (.int .i64 (n + 1))) : HookAt P f (hPut okx) := fun args h nx av h' nx' ρ w vs H hv e => by
  unfold hPut at e
  split at e
  · rename_i id o ch x
    obtain ⟨v1, r1, rfl, ⟨g, t, hg, rfl⟩, v2, r2, rfl, ⟨c, t', hc, rfl⟩, v3, r3, rfl, hx, h0⟩ := hv
    cases (show r3 = [] from h0)
    replace ⟨ho, hxo, e⟩ := cut2 e (noBad _)
    cases Nat.eq_of_beq_eq_true ho
    have hxv := hok ρ x v3 hxo hx
    replace ⟨q, e1, e⟩ := opt4 e okNe
    obtain ⟨k1, b, k2, k3⟩ := chOf_ok H e1 hc
    have hsz := Vs_size _ _ k3
    rcases bif_some e with ⟨hb, e⟩ | ⟨hb, e⟩
    · obtain ⟨rfl, rfl, rfl⟩ := ok3 e
      have hlt : b.toArray.size < q.1 := by rw [List.size_toArray, ← hsz]; simpa using hb
      refine Calls.mono (room g c q.1 q.2.2.1 q.2.2.2 b.toArray v3 w hxv k2 hlt) fun x' w' ⟨j1, j2⟩ => ?_
      obtain ⟨y1, y2⟩ := setChan_HR (l' := appA q.2.1 (.cn x .nl)) (s' := q.2.2.1 + 1) (r' := q.2.2.2) H k1 hc (b := b ++ [v3]) (Vs_app (ρ := ρ) (b := .cn x .nl) (vs' := [v3]) ⟨v3, [], rfl, hx, rfl⟩ _ _ k3) (by rw [show (b ++ [v3]).toArray = b.toArray.push v3 by simp]; exact j2)
      exact ⟨ρ, _, j1, rfl, y1, y2⟩
    · replace ⟨v, e2, e⟩ := opt4 e okNe
      obtain ⟨u, k4, k5⟩ := cellOf_ok H e2 hg
      split at e
      · rename_i n
        cases (show u = .int .i64 (.ofNat n) from k5)
        replace ⟨hn, e⟩ := cut1 e (noBad _)
        have hn : n < 1000000 := by simpa using hn
        cases e3 : oSt 1 (.p id 2) (.i .i64 (.ofNat (Nat.succ n))) h nx with
        | bad k => rw [e3] at e; cases e
        | ok v' h2 n2 =>
          rw [e3] at e
          obtain ⟨rfl, rfl, rfl⟩ := ok3 e
          obtain ⟨_, rfl, y0, y1, y2⟩ := oSt1_run H hg e3
          have hge : q.1 ≤ b.toArray.size := by
            rw [List.size_toArray, ← hsz]
            exact Nat.not_lt.1 fun r => by rw [← Nat.blt_eq, hb] at r; cases r
          refine Calls.mono (full g c q.1 q.2.2.1 q.2.2.2 b.toArray v3 (.ofNat n) w hxv k2 hge k4 y0 (by rw [← wrapF_eq]; show wrapF .i64 (Int.ofNat n + 1) = _; rw [wrapF_eq]; exact IntWalk.i64_in _ (by simp only [Int.ofNat_eq_natCast]; omega))) fun x' w' ⟨j1, w1, j3, j2⟩ => ?_
          subst j2
          obtain ⟨z1, z2⟩ := H.gr j3
          obtain ⟨_, _, _, y1, y2⟩ := oSt1_run z1 hg e3
          exact ⟨ρ, _, j1, rfl, y1, z2.trans y2⟩
      · cases e
  · cases e
theorem hd_tl {ρ : Ren} {x t : AV} {b : List Value} (h : Vs ρ (.cn x t) b) : ∃ v r, b = v :: r ∧ V ρ x v ∧ Vs ρ t r := h
theorem htake_at {f : Nat} {okx : AV → Bool} {okv : Value → Prop} (hok : ∀ ρ x v, okx x = true → V ρ x v → okv v) {z : AV} {zv : Value} (hz : ∀ ρ, V ρ z zv)
    (fast : ∀ (p cf cap s r : Nat) (buf bt : Array Value) (v : Value) (w : World), w.cell? ⟨p, 0, none⟩ = some (.chan (some cf)) → w.heap[cf]? = some (.chan cap buf false s r false) → 0 < buf.size → okv v → buf.getD 0 undef = v → buf.extract 1 buf.size = bt →
      Calls P f #[.pointer (some ⟨p, 0, none⟩)] w fun e w' => e = .returned (.tuple #[v, .bool true]) ∧ ChG w w' cf cap bt s (r + 1))
    (slow : ∀ (p cf cl cap s r capl sl rl : Nat) (buf bt : Array Value) (v : Value) (w : World), w.cell? ⟨p, 0, none⟩ = some (.chan (some cf)) → w.cell? ⟨p, 1, none⟩ = some (.chan (some cl)) → w.heap[cf]? = some (.chan cap #[] false s r false) → w.heap[cl]? = some (.chan capl buf false sl rl false) → 0 < buf.size → okv v → buf.getD 0 undef = v → buf.extract 1 buf.size = bt →
      Calls P f #[.pointer (some ⟨p, 0, none⟩)] w fun e w' => e = .returned (.tuple #[v, .bool true]) ∧ ChG w w' cl capl bt sl (rl + 1))
    (none' : ∀ (p cf cl cap s r capl sl rl : Nat) (w : World), w.cell? ⟨p, 0, none⟩ = some (.chan (some cf)) → w.cell? ⟨p, 1, none⟩ = some (.chan (some cl)) → w.heap[cf]? = some (.chan cap #[] false s r false) → w.heap[cl]? = some (.chan capl #[] false sl rl false) →
      Calls P f #[.pointer (some ⟨p, 0, none⟩)] w fun e w' => e = .returned (.tuple #[zv, .bool false]) ∧ Gr w w')
    (nil : ∀ (w : World), Calls P f #[.pointer none] w fun e w' => e = .returned (.tuple #[zv, .bool false]) ∧ Gr w w') : HookAt P f (hTake okx z) := fun args h nx av h' nx' ρ w vs H hv e => by
  have htp : ∀ (ρ : Ren) {x : AV} {v : Value} (b : Bool), V ρ x v → V ρ (.tp (.cn x (.cn (.b b) .nl))) (.tuple #[v, .bool b]) := fun ρ x v b hx => ⟨[v, .bool b], ⟨v, _, rfl, hx, .bool b, _, rfl, rfl, rfl⟩, rfl⟩
  have tk_ok : ∀ {ch : AV} {els : Rv}, tk okx ch h nx els = .ok av h' nx' → ∃ id q, ch = .c id ∧ chOf (.c id) h = some q ∧ ((∃ x t, q.2.1 = .cn x t ∧ okx x = true ∧ av = .tp (.cn x (.cn (.b true) .nl)) ∧ h' = setP (some (.ch q.1 t q.2.2.1 (Nat.succ q.2.2.2))) id h ∧ nx' = nx) ∨ (q.2.1 = .nl ∧ els = .ok av h' nx')) := fun {ch els} e => by
    unfold tk at e
    split at e
    · rename_i id
      replace ⟨q, e1, e⟩ := opt4 e okNe
      refine ⟨id, q, rfl, e1, ?_⟩
      split at e
      · rename_i x t hq
        replace ⟨hx, e⟩ := cut1 e (noBad _)
        obtain ⟨rfl, rfl, rfl⟩ := ok3 e
        exact .inl ⟨x, t, hq, hx, rfl, rfl, rfl⟩
      · rename_i hq
        exact .inr ⟨hq, e⟩
      · cases e
    · cases e
  unfold hTake at e
  split at e
  · rename_i id o
    obtain ⟨v1, r1, rfl, ⟨g, t, hg, rfl⟩, h0⟩ := hv
    cases (show r1 = [] from h0)
    replace ⟨ho, e⟩ := cut1 e (noBad _)
    cases Nat.eq_of_beq_eq_true ho
    replace ⟨fa, e1, e⟩ := opt4 e okNe
    replace ⟨sa, e2, e⟩ := opt4 e okNe
    obtain ⟨u1, c1, k1⟩ := cellOf_ok H e1 hg
    obtain ⟨u2, c2, k2⟩ := cellOf_ok H e2 hg
    obtain ⟨idf, qf, rfl, e3, hf⟩ := tk_ok e
    obtain ⟨cf, tf, hcf, rfl⟩ := k1
    obtain ⟨a1, bf, a2, a3⟩ := chOf_ok H e3 hcf
    rcases hf with ⟨x, tl, q1, hxo, rfl, rfl, rfl⟩ | ⟨q1, e⟩
    · rw [q1] at a3 a1
      obtain ⟨v, r, rfl, b1, b2⟩ := a3
      refine Calls.mono (fast g cf qf.1 qf.2.2.1 qf.2.2.2 (v :: r).toArray r.toArray v w c1 a2 (by simp) (hok ρ x v hxo b1) (by simp) (by simp)) fun x' w' ⟨j1, j2⟩ => ?_
      obtain ⟨y1, y2⟩ := setChan_HR (l' := tl) (s' := qf.2.2.1) (r' := qf.2.2.2 + 1) H a1 hcf b2 j2
      exact ⟨ρ, _, j1, htp ρ true b1, y1, y2⟩
    · rw [q1] at a3 a1
      cases (show bf = [] from a3)
      obtain ⟨idl, ql, rfl, e4, hl⟩ := tk_ok e
      obtain ⟨cl, tl', hcl, rfl⟩ := k2
      obtain ⟨b1, bl, b2, b3⟩ := chOf_ok H e4 hcl
      rcases hl with ⟨x, tl, q2, hxo, rfl, rfl, rfl⟩ | ⟨q2, e⟩
      · rw [q2] at b3 b1
        obtain ⟨v, r, rfl, d1, d2⟩ := b3
        refine Calls.mono (slow g cf cl qf.1 qf.2.2.1 qf.2.2.2 ql.1 ql.2.2.1 ql.2.2.2 (v :: r).toArray r.toArray v w c1 c2 a2 b2 (by simp) (hok ρ x v hxo d1) (by simp) (by simp)) fun x' w' ⟨j1, j2⟩ => ?_
        obtain ⟨y1, y2⟩ := setChan_HR (l' := tl) (s' := ql.2.2.1) (r' := ql.2.2.2 + 1) H b1 hcl d2 j2
        exact ⟨ρ, _, j1, htp ρ true d1, y1, y2⟩
      · rw [q2] at b3 b1
        cases (show bl = [] from b3)
        obtain ⟨rfl, rfl, rfl⟩ := ok3 e
        refine Calls.mono (none' g cf cl qf.1 qf.2.2.1 qf.2.2.2 ql.1 ql.2.2.1 ql.2.2.2 w c1 c2 a2 b2) fun x' w' ⟨j1, j2⟩ => ?_
        exact ⟨ρ, _, j1, htp ρ false (hz ρ), (H.gr j2).1, (H.gr j2).2⟩
  · obtain ⟨v1, r1, rfl, rfl, h0⟩ := hv
    cases (show r1 = [] from h0)
    obtain ⟨rfl, rfl, rfl⟩ := ok3 e
    refine Calls.mono (nil w) fun x' w' ⟨j1, j2⟩ => ?_
    exact ⟨ρ, _, j1, htp ρ false (hz ρ), (H.gr j2).1, (H.gr j2).2⟩
  · cases e
end
end Go.Ev
end

section
open Go
namespace Go.Ev
section
variable {P : Program}
theorem CR_is {ρ : Ren} {n : Nat} {c : Array Value} : ∀ (l : AV) (vs : List Value), Vs ρ l vs → ∀ (off : Nat) (tr : T AV), CR ρ tr n c → off + vs.length ≤ n → (∀ j v, vs[j]? = some v → c[off + j]? = some v) → CR ρ (putCells l off tr) n c := by
  refine Vs_ind (fun off tr h _ _ => h) fun x y v r h1 h2 ih off tr h hn hj => ?_
  have e : putCells (.cn x y) off tr = putCells y (off + 1) (setP (some x) (path off) tr) := by
    show force off (fun off => putCells y (Nat.succ off) (setP (some x) (path off) tr)) = _; rw [force_eq]
  rw [e]
  simp only [List.length_cons] at hn
  refine ih (off + 1) _ (fun i u q => ?_) (by omega) (fun j u q => ?_)
  · rcases get_set' (some x) (path i) (path off) tr with ⟨g1, g2⟩ | ⟨g1, g2⟩
    · rw [g1] at q; cases q
      rw [path_inj g2]
      exact ⟨by omega, v, hj 0 v rfl, h1⟩
    · rw [g1] at q; exact h i u q
  · have := hj (j + 1) u (by simpa using q)
    rw [← this, show off + 1 + j = off + (j + 1) by omega]
/-- A new row that somebody has made. -/
theorem row_new {ρ : Ren} {h : Hp} {nx : Pa} {w w' : World} (H : HR ρ h nx w) (g : Gr w w') {l : AV} {vs : List Value} (hl : Vs ρ l vs) {v : Value} {e : TypeId} (ho : w'.ownsRow w.heap.size e 1 v vs.length vs) (hne : v ≠ .slice none 0 0) :
    ∃ ρ', V ρ' (.so nx 0 vs.length 1) v ∧ HR ρ' (setP (some (newBlk l)) nx h) nx.succ w' ∧ Stp ρ h w ρ' (setP (some (newBlk l)) nx h) w' := by
  obtain ⟨_, ⟨q, _⟩ | ⟨b, cap, cur, rfl, hb, hc, hn, _, hs, ht⟩⟩ := ho
  · exact absurd q hne
  rw [Nat.mul_one] at hs ht
  have hx : ∀ id p, ρ id = some p → upd ρ nx (b, cap) id = some p := H.ext (b, cap)
  refine ⟨upd ρ nx (b, cap), ⟨b, cap, upd_same _ _ _, by simp⟩, H.fresh (fun id b' t' e e' => ?_) (fun k _ hk => g.keep k hk) ?_, H.ext _, g.os, g.tape, g.output, g.size, fun k hk _ => g.keep k hk, fun k o => ?_, fun k o => ?_⟩
  · obtain ⟨g', t, h1, h2⟩ := H.blk id b' e
    rw [e'] at h1; cases h1; have := h2.lt; omega
  · rw [newBlk_eq, Vs_size _ _ hl]
    refine ⟨cur, e, (0, 0), hc, hs, hn, ?_, fun _ => .inl rfl, fun _ => rfl⟩
    refine CR_is l vs (Vs_mono (H.ext _) hl) 0 .lf (fun i u q => by rw [getP_lf] at q; cases q) (by omega) fun j u q => ?_
    have hj : j < vs.length := (List.getElem?_eq_some_iff.1 q).1
    have : (cur.toList.take vs.length)[j]? = some u := by rw [ht]; exact q
    rw [List.getElem?_take, if_pos hj] at this
    simpa using this
  · rcases own_set o with e | e
    · exact .inr (by omega)
    · exact .inl e
  · rcases live_set o with e | e
    · exact .inr (by omega)
    · exact .inl e
/-! ### plain facts -/
section
variable {α : Type}
theorem insB_ok {lt : α → α → Bool} {R : α → α → Prop} (hR : ∀ a b, lt a b = true → R a b) (tr : ∀ a b c, R a b → R b c → R a c) {k : α} : ∀ {l r : List α}, insB lt k l = some r → l.Pairwise R → r.Perm (k :: l) ∧ r.Pairwise R
  | [], r, e, _ => by cases e; exact ⟨List.Perm.refl _, by simp⟩
  | h :: t, r, e, hp => by
    have e : (bif lt k h then some (k :: h :: t) else bif lt h k then Option.casesOn (insB lt k t) none fun r => some (h :: r) else none) = some r := e
    cases h1 : lt k h with
    | true =>
      rw [h1] at e; cases e
      obtain ⟨q1, q2⟩ := List.pairwise_cons.1 hp
      exact ⟨List.Perm.refl _, List.pairwise_cons.2 ⟨fun x hx => by
        rcases List.mem_cons.1 hx with rfl | hx
        · exact hR _ _ h1
        · exact tr _ _ _ (hR _ _ h1) (q1 x hx), hp⟩⟩
    | false =>
      rw [h1] at e
      cases h2 : lt h k with
      | false => rw [h2] at e; cases e
      | true =>
        rw [h2] at e
        have e : (Option.casesOn (insB lt k t) none fun r => some (h :: r) : Option (List α)) = some r := e
        cases h3 : insB lt k t with
        | none => rw [h3] at e; cases e
        | some r' =>
          rw [h3] at e; cases e
          obtain ⟨q1, q2⟩ := List.pairwise_cons.1 hp
          obtain ⟨p1, p2⟩ := insB_ok hR tr h3 q2
          refine ⟨(p1.cons h).trans (.swap k h t), List.pairwise_cons.2 ⟨fun x hx => ?_, p2⟩⟩
          rcases List.mem_cons.1 (p1.mem_iff.1 hx) with rfl | hx
          · exact hR _ _ h2
          · exact q1 x hx
theorem sortB_ok {lt : α → α → Bool} {R : α → α → Prop} (hR : ∀ a b, lt a b = true → R a b) (tr : ∀ a b c, R a b → R b c → R a c) : ∀ {l r : List α}, sortB lt l = some r → r.Perm l ∧ r.Pairwise R
  | [], r, e => by cases e; exact ⟨List.Perm.refl _, .nil⟩
  | k :: l, r, e => by
    have e : (Option.casesOn (sortB lt l) none fun r => insB lt k r : Option (List α)) = some r := e
    cases h : sortB lt l with
    | none => rw [h] at e; cases e
    | some r' =>
      rw [h] at e
      obtain ⟨p1, p2⟩ := sortB_ok hR tr h
      obtain ⟨q1, q2⟩ := insB_ok hR tr (show insB lt k r' = some r from e) p2
      exact ⟨q1.trans (p1.cons k), q2⟩
theorem keysB_ok {key : AV → Option α} {enc : α → Value} {ok : α → Prop} (hk : ∀ ρ x v k, key x = some k → V ρ x v → v = enc k ∧ ok k) {ρ : Ren} : ∀ {es : List ME} {ents : List MapEntry} {ks : List α}, keysB key es = some ks → ERs ρ es ents → ents.map (·.key) = ks.map enc ∧ ∀ k ∈ ks, ok k
  | [], ents, ks, e, h => by cases e; cases (show ents = [] from h); exact ⟨rfl, by simp⟩
  | x :: es, ents, ks, e, h => by
    obtain ⟨m, t, rfl, ⟨h1, _, _⟩, h3⟩ := h
    have e : (Option.casesOn (key x.k) none fun k => Option.casesOn (keysB key es) none fun r => some (k :: r) : Option (List α)) = some ks := e
    cases e1 : key x.k with
    | none => rw [e1] at e; cases e
    | some k =>
      rw [e1] at e
      cases e2 : keysB key es with
      | none => rw [e2] at e; cases e
      | some r =>
        rw [e2] at e; cases e
        obtain ⟨q1, q2⟩ := hk ρ _ _ _ e1 h1
        obtain ⟨q3, q4⟩ := keysB_ok hk e2 h3
        exact ⟨by rw [List.map_cons, List.map_cons, q1, q3], fun y hy => by
          rcases List.mem_cons.1 hy with rfl | hy
          · exact q2
          · exact q4 y hy⟩
theorem bnOk_ok {clk : Nat} {ρ : Ren} : ∀ {es : List ME} {ents : List MapEntry} {lo : Nat}, bnOk clk es lo = true → ERs ρ es ents → (∀ m ∈ ents, lo ≤ m.born ∧ m.born < clk) ∧ (ents.map (·.born)).Nodup
  | [], ents, lo, _, h => by cases (show ents = [] from h); exact ⟨by simp, by simp⟩
  | x :: es, ents, lo, e, h => by
    obtain ⟨m, t, rfl, ⟨_, _, h1⟩, h3⟩ := h
    obtain ⟨e1, e2, e3⟩ := and3 (show (Nat.ble lo x.bn && Nat.blt x.bn clk && bnOk clk es (Nat.succ x.bn)) = true from e)
    have e1 := Nat.le_of_ble_eq_true e1
    rw [Nat.blt_eq] at e2
    obtain ⟨q1, q2⟩ := bnOk_ok e3 h3
    refine ⟨fun y hy => ?_, ?_⟩
    · rcases List.mem_cons.1 hy with rfl | hy
      · omega
      · have := q1 y hy; omega
    · rw [List.map_cons, List.nodup_cons]
      refine ⟨fun hy => ?_, q2⟩
      obtain ⟨y, hy, e⟩ := List.mem_map.1 hy
      have := q1 y hy; omega
theorem listB_Vs {ρ : Ren} {av : α → AV} {enc : α → Value} (h : ∀ k, V ρ (av k) (enc k)) : ∀ l : List α, Vs ρ (listB av l) (l.map enc)
  | [] => rfl
  | k :: l => ⟨enc k, l.map enc, rfl, h k, listB_Vs h l⟩
end
theorem memN_ok {n : Nat} : ∀ {l : List Nat}, memN n l = true → n ∈ l
  | x :: l, h => by
    have h : (bif Nat.beq x n then true else memN n l) = true := h
    cases e : Nat.beq x n with
    | true => rw [Nat.eq_of_beq_eq_true e]; simp
    | false => rw [e] at h; exact List.mem_cons_of_mem _ (memN_ok h)
theorem mapOf_ok {ρ : Ren} {h : Hp} {nx : Pa} {w : World} (H : HR ρ h nx w) {m : Pa} {q : List ME × Nat} (e : mapOf m h = some q) {b t : Nat} (hb : ρ m = some (b, t)) : ∃ ents, w.heap[b]? = some (.map ents q.2) ∧ ERs ρ q.1 ents.toList := by
  have e : (Option.casesOn (getP m h) none fun b => Blk.casesOn b (fun _ _ _ _ => none) (fun es c => some (es, c)) (fun _ _ _ _ => none) (fun _ _ _ _ => none) : Option (List ME × Nat)) = some q := e
  cases e1 : getP m h with
  | none => rw [e1] at e; cases e
  | some b =>
    rw [e1] at e
    cases b with
    | mp es c => cases e; exact getP_mp H e1 hb
    | ce _ _ _ _ => cases e
    | ch _ _ _ _ => cases e
    | it _ _ _ _ => cases e
theorem hsorted_at {α : Type} {f : Nat} {key : AV → Option α} {lt : α → α → Bool} {av : α → AV} {fs : List Nat} {enc : α → Value} {ok : α → Prop} {R : α → α → Prop} {t : TypeId}
    (hk : ∀ ρ x v k, key x = some k → V ρ x v → v = enc k ∧ ok k) (hav : ∀ ρ k, V ρ (av k) (enc k)) (apart : ∀ a b, R a b → enc a ≠ enc b) (hR : ∀ a b, lt a b = true → R a b) (tr : ∀ a b c, R a b → R b c → R a c)
    (nil : ∀ f' ∈ fs, ∀ (g : Nat) (w : World), w.cell? ⟨g, 0, none⟩ = some (.map none) → Calls P f #[.func (.func f') #[] #[.pointer (some ⟨g, 0, none⟩)]] w fun e w' => e = .returned (.slice none 0 0) ∧ Gr w w')
    (map : ∀ f' ∈ fs, ∀ (g b clk : Nat) (ents : Array MapEntry) (w : World), w.cell? ⟨g, 0, none⟩ = some (.map (some b)) → w.heap[b]? = some (.map ents clk) → MapKept.Stamped ents clk → ents.size ≤ 1000000 → ∀ ks r : List α, ents.toList.map (·.key) = ks.map enc → (∀ k ∈ ks, ok k) → r.Pairwise R → r.Perm ks →
      Calls P f #[.func (.func f') #[] #[.pointer (some ⟨g, 0, none⟩)]] w fun e w' => ∃ v, e = .returned v ∧ w'.ownsRow w.heap.size t 1 v r.length (r.map enc) ∧ (v = .slice none 0 0 ↔ r = []) ∧ Gr w w') : HookAt P f (hSorted key lt av fs) := fun args h nx av' h' nx' ρ w vs H hv e => by
  unfold hSorted at e
  split at e
  · rename_i f' id off
    obtain ⟨v1, r1, rfl, ⟨p, q, hp, ⟨v2, r2, rfl, ⟨g, t', hg, rfl⟩, h2⟩, rfl⟩, h0⟩ := hv
    cases (show r1 = [] from h0)
    cases (show p = [] from hp)
    cases (show r2 = [] from h2)
    replace ⟨hm, ho, e⟩ := cut2 e (noBad _)
    cases Nat.eq_of_beq_eq_true ho
    have hm := memN_ok hm
    replace ⟨x, e1, e⟩ := opt4 e okNe
    obtain ⟨u, k1, k2⟩ := cellOf_ok H e1 hg
    split at e
    · cases (show u = .map none from k2)
      obtain ⟨rfl, rfl, rfl⟩ := ok3 e
      refine Calls.mono (nil f' hm g w k1) fun x w' ⟨j1, j2⟩ => ?_
      exact ⟨ρ, _, j1, rfl, (H.gr j2).1, (H.gr j2).2⟩
    · rename_i m
      obtain ⟨b, tb, hb, rfl⟩ := k2
      replace ⟨q, e2, e⟩ := opt4 e okNe
      replace ⟨c1, c2, e⟩ := cut2 e (noBad _)
      replace ⟨ks, e3, e⟩ := opt4 e okNe
      replace ⟨r, e4, e⟩ := opt4 e okNe
      obtain ⟨ents, b1, b2⟩ := mapOf_ok H e2 hb
      obtain ⟨d1, d2⟩ := keysB_ok hk e3 b2
      obtain ⟨d3, d4⟩ := sortB_ok hR tr e4
      obtain ⟨d5, d6⟩ := bnOk_ok c1 b2
      have hlen : q.1.length = ents.size := by rw [ERs_len b2]; simp
      have hsz : ents.size ≤ 1000000 := by rw [← hlen, ← lenE_eq]; exact Nat.le_of_ble_eq_true c2
      have hnd : ks.Pairwise (fun a b => enc a ≠ enc b) := (d3.pairwise_iff (fun {a b} h => Ne.symm h)).1 (d4.imp fun {a b} h => apart a b h)
      have hst : MapKept.Stamped ents q.2 := ⟨fun y hy => (d5 y hy).2, d6, by
        rw [d1]; exact List.pairwise_map.2 hnd⟩
      refine Calls.mono (map f' hm g b q.2 ents w k1 b1 hst hsz ks r d1 d2 d4 d3) fun x w' ⟨v, j1, j2, j3, j4⟩ => ?_
      split at e
      · obtain ⟨rfl, rfl, rfl⟩ := ok3 e
        exact ⟨ρ, v, j1, (show v = _ from j3.2 rfl), (H.gr j4).1, (H.gr j4).2⟩
      · rename_i k tl _
        rw [grow_eq] at e
        obtain ⟨rfl, rfl, rfl⟩ := ok3 e
        have hl : Vs ρ (.cn (av k) (listB av tl)) ((k :: tl).map enc) := listB_Vs (hav ρ) (k :: tl)
        have hn : v ≠ .slice none 0 0 := fun q => by have := j3.1 q; cases this
        obtain ⟨ρ', y1, y2, y3⟩ := row_new H j4 hl (by rw [List.length_map]; exact j2) hn
        have : lenE q.1 = ((k :: tl).map enc).length := by
          rw [lenE_eq, hlen, List.length_map, d3.length_eq]
          have := congrArg List.length d1
          simpa using this
        rw [this]
        exact ⟨ρ', v, j1, y1, y2, y3⟩
    · cases e
  · cases e
end
end Go.Ev
end
