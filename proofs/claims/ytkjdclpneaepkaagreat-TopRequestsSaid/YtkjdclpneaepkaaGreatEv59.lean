/- Memory without what nobody reaches, the next name set back. -/
import Derived.Test.YtkjdclpneaepkaaGreatEv58
set_option linter.unusedVariables false
open Go
namespace Go.Ev.Cg
noncomputable section
abbrev Vis := T Unit → List Pa → (T Unit → List Pa → Bool) → Bool
def addId (id : Pa) : Vis := fun vis st k => Option.rec (motive := fun _ => Bool) (setK (some ()) id vis fun vis => k vis (id :: st)) (fun _ => k vis st) (getP id vis)
def vA (v : AV) : Vis := AV.rec (motive := fun _ => Vis) (fun vis st k => k vis st) (fun _ _ f g vis st k => f vis st fun vis st => g vis st k) (fun _ vis st k => k vis st) (fun _ _ vis st k => k vis st) (fun _ vis st k => k vis st) (fun vis st k => k vis st) (fun id _ vis st k => addId id vis st k)
  (fun vis st k => k vis st) (fun vis st k => k vis st) (fun id _ _ _ vis st k => addId id vis st k) (fun id _ _ _ vis st k => addId id vis st k) (fun vis st k => k vis st) (fun id vis st k => addId id vis st k) (fun vis st k => k vis st) (fun id vis st k => addId id vis st k)
  (fun vis st k => k vis st) (fun _ _ _ f g vis st k => f vis st fun vis st => g vis st k) (fun _ f vis st k => f vis st k) (fun _ f vis st k => f vis st k) v
def vO (o : Option AV) : Vis := Option.rec (motive := fun _ => Vis) (fun vis st k => k vis st) vA o
def f8 {X : Type} (f : X → Vis) (n : N8 X) : Vis := N8.rec (motive := fun _ => Vis) (fun a0 a1 a2 a3 a4 a5 a6 a7 vis st k => f a0 vis st fun vis st => f a1 vis st fun vis st => f a2 vis st fun vis st => f a3 vis st fun vis st => f a4 vis st fun vis st => f a5 vis st fun vis st => f a6 vis st fun vis st => f a7 vis st k) n
def ifV (b : Bool) (x y : Bool) : Bool := Bool.rec (motive := fun _ => Bool) y x b
def vT (t : T AV) (n : Nat) : Vis := T.rec (motive := fun _ => Vis) (fun t1 t2 t3 t4 _ _ vis st k => f8 vO t1 vis st fun vis st => ifV (Nat.ble n 8) (k vis st) (f8 (f8 vO) t2 vis st fun vis st => ifV (Nat.ble n 72) (k vis st) (f8 (f8 (f8 vO)) t3 vis st fun vis st => ifV (Nat.ble n 584) (k vis st) (f8 (f8 (f8 (f8 vO))) t4 vis st k)))) t
def vE (l : List ME) : Vis := List.rec (motive := fun _ => Vis) (fun vis st k => k vis st) (fun e _ ih vis st k => vA e.k vis st fun vis st => vA e.v vis st fun vis st => ih vis st k) l
def vB (b : Blk) : Vis := Blk.rec (motive := fun _ => Vis) (fun t n _ _ => vT t n) (fun es _ => vE es) (fun _ buf _ _ => vA buf) (fun m _ _ _ => Option.rec (motive := fun _ => Vis) (fun vis st k => k vis st) addId m) b
def vL (ks : List Nat) (α : T AV) : Vis := List.rec (motive := fun _ => Vis) (fun vis st k => k vis st) (fun s _ ih vis st k => vO (getP (path s) α) vis st fun vis st => ih vis st k) ks
/-- What can be reached, and the greatest name that was met. -/
def mkD (h : Hp) (n : Nat) : T Unit → List Pa → List Pa → Nat → (List Pa → Nat → Bool) → Bool := Nat.rec (motive := fun _ => T Unit → List Pa → List Pa → Nat → (List Pa → Nat → Bool) → Bool) (fun _ _ _ _ _ => false)
  (fun _ ih vis st done m k => List.rec (motive := fun _ => Bool) (k done m) (fun id rest _ => force (ifN (Nat.ble (toN id) m) m (toN id)) fun m => Option.rec (motive := fun _ => Bool) (ih vis rest done m k) (fun b => vB b vis rest fun vis st => ih vis st (id :: done) m k) (getP id h)) st) n
where ifN (b : Bool) (x y : Nat) : Nat := Bool.rec (motive := fun _ => Nat) y x b
/-! ### what is checked -/
def okI (N : Nat) (id : Pa) : Bool := Nat.blt (toN id) N
def cA (N : Nat) (v : AV) : Bool := AV.rec (motive := fun _ => Bool) true (fun _ _ f g => ifV f g false) (fun _ => true) (fun _ _ => true) (fun _ => true) true (fun id _ => okI N id) true true (fun id _ _ _ => okI N id) (fun id _ _ _ => okI N id) true (fun id => okI N id) true (fun id => okI N id) true (fun _ _ _ f g => ifV f g false) (fun _ f => f) (fun _ f => f) v
def cO' (N : Nat) (o : Option AV) : Bool := Option.rec (motive := fun _ => Bool) true (cA N) o
def a8 {X : Type} (f : X → Bool) (n : N8 X) : Bool := N8.rec (motive := fun _ => Bool) (fun a0 a1 a2 a3 a4 a5 a6 a7 => ifV (f a0) (ifV (f a1) (ifV (f a2) (ifV (f a3) (ifV (f a4) (ifV (f a5) (ifV (f a6) (f a7) false) false) false) false) false) false) false) n
def cT (N : Nat) (t : T AV) (n : Nat) : Bool := T.rec (motive := fun _ => Bool) (fun t1 t2 t3 t4 _ _ => ifV (a8 (cO' N) t1) (ifV (Nat.ble n 8) true (ifV (a8 (a8 (cO' N)) t2) (ifV (Nat.ble n 72) true (ifV (a8 (a8 (a8 (cO' N))) t3) (ifV (Nat.ble n 584) true (ifV (a8 (a8 (a8 (a8 (cO' N)))) t4) (Nat.ble n 4680) false)) false)) false)) false) t
def cE (N : Nat) (l : List ME) : Bool := List.rec (motive := fun _ => Bool) true (fun e _ ih => ifV (cA N e.k) (ifV (cA N e.v) ih false) false) l
def cB (N : Nat) (b : Blk) : Bool := Blk.rec (motive := fun _ => Bool) (fun t n _ _ => cT N t n) (fun es _ => cE N es) (fun _ buf _ _ => cA N buf) (fun m _ _ _ => Option.rec (motive := fun _ => Bool) true (okI N) m) b
def cL' (N : Nat) (h : Hp) (l : List Pa) : Bool := List.rec (motive := fun _ => Bool) true (fun id _ ih => ifV (okI N id) (ifV (Option.rec (motive := fun _ => Bool) true (cB N) (getP id h)) ih false) false) l
def cS (N : Nat) (α : T AV) (ks : List Nat) : Bool := List.rec (motive := fun _ => Bool) true (fun s _ ih => ifV (cO' N (getP (path s) α)) ih false) ks
def bldH (h : Hp) (l : List Pa) : Hp → (Hp → Bool) → Bool := List.rec (motive := fun _ => Hp → (Hp → Bool) → Bool) (fun t k => k t) (fun id _ ih t k => Option.rec (motive := fun _ => Bool) (ih t k) (fun b => setK (some b) id t fun t => ih t k) (getP id h)) l
def bldS (α : T AV) (ks : List Nat) : T AV → (T AV → Bool) → Bool := List.rec (motive := fun _ => T AV → (T AV → Bool) → Bool) (fun t k => k t) (fun s _ ih t k => Option.rec (motive := fun _ => Bool) (ih t k) (fun v => setK (some v) (path s) t fun t => ih t k) (getP (path s) α)) ks
def gcK (ks : List Nat) (α : T AV) (h : Hp) (k : T AV → Hp → Pa → Bool) : Bool :=
  vL ks α .lf [] fun vis st => mkD h 100000 vis st [] 0 fun done m => force (Nat.succ m) fun N => ifV (cS N α ks) (ifV (cL' N h done) (bldS α ks .lf fun α' => bldH h done .lf fun h' => k α' h' (path N)) false) false
end
/-! ### what was met does not count -/
def Fin (g : Vis) : Prop := ∀ vis st k, g vis st k = true → ∃ vis' st', k vis' st' = true
theorem Fin.id : Fin (fun vis st k => k vis st) := fun vis st _ h => ⟨vis, st, h⟩
theorem Fin.seq {f g : Vis} (hf : Fin f) (hg : Fin g) : Fin (fun vis st k => f vis st fun vis st => g vis st k) := fun vis st k h => by
  obtain ⟨v1, s1, h1⟩ := hf vis st _ h
  exact hg v1 s1 k h1
theorem fin_add (id : Pa) : Fin (addId id) := fun vis st k h => by
  unfold addId at h
  cases e : getP id vis with
  | none => rw [e] at h; have h : setK (some ()) id vis (fun vis => k vis (id :: st)) = true := h; rw [setK_eq] at h; exact ⟨_, _, h⟩
  | some u => rw [e] at h; exact ⟨_, _, h⟩
theorem fin_A : ∀ v : AV, Fin (vA v) := by
  intro v
  induction v with
  | cn x y ihx ihy => exact (Fin.seq ihx ihy :)
  | f fn x y ihx ihy => exact (Fin.seq ihx ihy :)
  | ag l ih => exact ih
  | tp l ih => exact ih
  | p id off => exact fin_add id
  | sl id a b c => exact fin_add id
  | so id a b c => exact fin_add id
  | m id => exact fin_add id
  | c id => exact fin_add id
  | _ => exact Fin.id
theorem fin_O : ∀ o : Option AV, Fin (vO o)
  | none => Fin.id
  | some v => fin_A v
theorem fin_8 {X : Type} {f : X → Vis} (hf : ∀ x, Fin (f x)) : ∀ n : N8 X, Fin (f8 f n) := fun ⟨a0, a1, a2, a3, a4, a5, a6, a7⟩ =>
  (Fin.seq (hf a0) (Fin.seq (hf a1) (Fin.seq (hf a2) (Fin.seq (hf a3) (Fin.seq (hf a4) (Fin.seq (hf a5) (Fin.seq (hf a6) (hf a7)))))))  :)
theorem fin_if {c : Bool} {g : Vis} (hg : Fin g) : Fin (fun vis st k => ifV c (k vis st) (g vis st k)) := fun vis st k h => by
  cases c with
  | true => exact ⟨_, _, h⟩
  | false => exact hg vis st k h
theorem fin_T (t : T AV) (n : Nat) : Fin (vT t n) := by
  obtain ⟨t1, t2, t3, t4, t5, z⟩ := t
  exact (Fin.seq (fin_8 fin_O t1) (fin_if (c := Nat.ble n 8) (Fin.seq (fin_8 (fin_8 fin_O) t2) (fin_if (c := Nat.ble n 72) (Fin.seq (fin_8 (fin_8 (fin_8 fin_O)) t3) (fin_if (c := Nat.ble n 584) (fin_8 (fin_8 (fin_8 (fin_8 fin_O))) t4)))))) :)
theorem fin_E : ∀ l : List ME, Fin (vE l)
  | [] => Fin.id
  | e :: l => (Fin.seq (fin_A e.k) (Fin.seq (fin_A e.v) (fin_E l)) :)
theorem fin_B : ∀ b : Blk, Fin (vB b)
  | .ce t n _ _ => fin_T t n
  | .mp es _ => fin_E es
  | .ch _ buf _ _ => fin_A buf
  | .it none _ _ _ => Fin.id
  | .it (some id) _ _ _ => fin_add id
theorem fin_L (α : T AV) : ∀ ks : List Nat, Fin (vL ks α)
  | [] => Fin.id
  | s :: ks => (Fin.seq (fin_O (getP (path s) α)) (fin_L α ks) :)
theorem fin_D (h : Hp) : ∀ (n : Nat) (vis : T Unit) (st done : List Pa) (m : Nat) (k : List Pa → Nat → Bool), mkD h n vis st done m k = true → ∃ done' m', k done' m' = true
  | 0, _, _, _, _, _, e => by cases e
  | n + 1, vis, [], done, m, k, e => ⟨_, _, e⟩
  | n + 1, vis, id :: rest, done, m, k, e => by
    have e : force (mkD.ifN (Nat.ble (toN id) m) m (toN id)) (fun m => Option.rec (motive := fun _ => Bool) (mkD h n vis rest done m k) (fun b => vB b vis rest fun vis st => mkD h n vis st (id :: done) m k) (getP id h)) = true := e
    rw [force_eq] at e
    cases e1 : getP id h with
    | none => rw [e1] at e; exact fin_D h n _ _ _ _ _ e
    | some b =>
      rw [e1] at e
      obtain ⟨v1, s1, e⟩ := fin_B b _ _ _ e
      exact fin_D h n _ _ _ _ _ e
/-! ### what was checked holds -/
theorem ifV_ok {a b : Bool} (h : ifV a b false = true) : a = true ∧ b = true := by cases a <;> cases b <;> first | (cases h; done) | exact ⟨rfl, rfl⟩
noncomputable def cut (N : Nat) (ρ : Ren) : Ren := fun id => bif Nat.blt (toN id) N then ρ id else none
theorem cut_lt {N : Nat} {ρ : Ren} {id : Pa} (h : okI N id = true) : cut N ρ id = ρ id := by unfold cut; rw [show Nat.blt (toN id) N = true from h]; rfl
theorem cut_some {N : Nat} {ρ : Ren} {id : Pa} {p : Nat × Nat} (h : cut N ρ id = some p) : ρ id = some p ∧ toN id < N := by
  unfold cut at h
  cases e : Nat.blt (toN id) N with
  | false => rw [e] at h; cases h
  | true => rw [e] at h; exact ⟨h, Nat.le_of_ble_eq_true e⟩
theorem cA_R {N : Nat} {ρ : Ren} : ∀ v : AV, cA N v = true → (∀ x, V ρ v x → V (cut N ρ) v x) ∧ (∀ l, Vs ρ v l → Vs (cut N ρ) v l)
  | .nl, _ => ⟨fun _ h => h, fun _ h => h⟩
  | .cn x y, e => by
    obtain ⟨e1, e2⟩ := ifV_ok (show ifV (cA N x) (cA N y) false = true from e)
    exact ⟨fun _ h => h, fun _ ⟨v, r, e, p, q⟩ => ⟨v, r, e, (cA_R x e1).1 _ p, (cA_R y e2).2 _ q⟩⟩
  | .b _, _ => ⟨fun _ h => h, fun _ h => h⟩
  | .i _ _, _ => ⟨fun _ h => h, fun _ h => h⟩
  | .s _, _ => ⟨fun _ h => h, fun _ h => h⟩
  | .np, _ => ⟨fun _ h => h, fun _ h => h⟩
  | .p id off, e => ⟨fun _ ⟨b, t, e1, f⟩ => ⟨b, t, (cut_lt (show okI N id = true from e)).trans e1, f⟩, fun _ h => h⟩
  | .ns, _ => ⟨fun _ h => h, fun _ h => h⟩
  | .se, _ => ⟨fun _ h => h, fun _ h => h⟩
  | .sl id _ _ _, e => ⟨fun _ ⟨b, t, e1, f⟩ => ⟨b, t, (cut_lt (show okI N id = true from e)).trans e1, f⟩, fun _ h => h⟩
  | .so id _ _ _, e => ⟨fun _ ⟨b, t, e1, f⟩ => ⟨b, t, (cut_lt (show okI N id = true from e)).trans e1, f⟩, fun _ h => h⟩
  | .nm, _ => ⟨fun _ h => h, fun _ h => h⟩
  | .m id, e => ⟨fun _ ⟨b, t, e1, f⟩ => ⟨b, t, (cut_lt (show okI N id = true from e)).trans e1, f⟩, fun _ h => h⟩
  | .nc, _ => ⟨fun _ h => h, fun _ h => h⟩
  | .c id, e => ⟨fun _ ⟨b, t, e1, f⟩ => ⟨b, t, (cut_lt (show okI N id = true from e)).trans e1, f⟩, fun _ h => h⟩
  | .nf, _ => ⟨fun _ h => h, fun _ h => h⟩
  | .f fn x y, e => by
    obtain ⟨e1, e2⟩ := ifV_ok (show ifV (cA N x) (cA N y) false = true from e)
    exact ⟨fun _ ⟨a, c, p, q, e⟩ => ⟨a, c, (cA_R x e1).2 _ p, (cA_R y e2).2 _ q, e⟩, fun _ h => h⟩
  | .ag l, e => ⟨fun _ ⟨a, p, f⟩ => ⟨a, (cA_R l (show cA N l = true from e)).2 _ p, f⟩, fun _ h => h⟩
  | .tp l, e => ⟨fun _ ⟨a, p, f⟩ => ⟨a, (cA_R l (show cA N l = true from e)).2 _ p, f⟩, fun _ h => h⟩
theorem cA_V {N : Nat} {ρ : Ren} {v : AV} {x : Value} (e : cA N v = true) (h : V ρ v x) : V (cut N ρ) v x := (cA_R v e).1 x h
theorem a8_ok {X : Type} {f : X → Bool} : ∀ {n : N8 X}, a8 f n = true → ∀ x : E8, f (sel x n) = true := fun {n} h x => by
  obtain ⟨a0, a1, a2, a3, a4, a5, a6, a7⟩ := n
  obtain ⟨h0, h⟩ := ifV_ok (show ifV (f a0) (ifV (f a1) (ifV (f a2) (ifV (f a3) (ifV (f a4) (ifV (f a5) (ifV (f a6) (f a7) false) false) false) false) false) false) false = true from h)
  obtain ⟨h1, h⟩ := ifV_ok h
  obtain ⟨h2, h⟩ := ifV_ok h
  obtain ⟨h3, h⟩ := ifV_ok h
  obtain ⟨h4, h⟩ := ifV_ok h
  obtain ⟨h5, h⟩ := ifV_ok h
  obtain ⟨h6, h⟩ := ifV_ok h
  cases x <;> assumption
theorem ifV_t {a b : Bool} (h : ifV a true b = true) : a = true ∨ b = true := by cases a with | true => exact .inl rfl | false => exact .inr h
theorem cT_ok {N : Nat} {t : T AV} {n : Nat} (h : cT N t n = true) (p : Pa) (v : AV) (e : getP p t = some v) (hl : toN p < n) : cA N v = true := by
  obtain ⟨t1, t2, t3, t4, t5, z⟩ := t
  obtain ⟨h1, h⟩ := ifV_ok (show ifV (a8 (cO' N) t1) (ifV (Nat.ble n 8) true (ifV (a8 (a8 (cO' N)) t2) (ifV (Nat.ble n 72) true (ifV (a8 (a8 (a8 (cO' N))) t3) (ifV (Nat.ble n 584) true (ifV (a8 (a8 (a8 (a8 (cO' N)))) t4) (Nat.ble n 4680) false)) false)) false)) false = true from h)
  have fin : ∀ {o : Option AV}, cO' N o = true → o = some v → cA N v = true := fun h e => by rw [e] at h; exact h
  cases p with
  | a x => exact fin (a8_ok h1 x) e
  | b y x =>
    have hl : 8 + (8 * y.num + x.num) < n := hl
    rcases ifV_t h with h | h
    · have := Nat.le_of_ble_eq_true h; omega
    · obtain ⟨h2, h⟩ := ifV_ok h
      exact fin (a8_ok (a8_ok h2 y) x) e
  | c z y x =>
    have hl : 72 + (8 * (8 * z.num + y.num) + x.num) < n := hl
    rcases ifV_t h with h | h
    · have := Nat.le_of_ble_eq_true h; omega
    · obtain ⟨h2, h⟩ := ifV_ok h
      rcases ifV_t h with h | h
      · have := Nat.le_of_ble_eq_true h; omega
      · obtain ⟨h3, h⟩ := ifV_ok h
        exact fin (a8_ok (a8_ok (a8_ok h3 z) y) x) e
  | d u z y x =>
    have hl : 584 + (8 * (8 * (8 * u.num + z.num) + y.num) + x.num) < n := hl
    rcases ifV_t h with h | h
    · have := Nat.le_of_ble_eq_true h; omega
    · obtain ⟨h2, h⟩ := ifV_ok h
      rcases ifV_t h with h | h
      · have := Nat.le_of_ble_eq_true h; omega
      · obtain ⟨h3, h⟩ := ifV_ok h
        rcases ifV_t h with h | h
        · have := Nat.le_of_ble_eq_true h; omega
        · obtain ⟨h4, h⟩ := ifV_ok h
          exact fin (a8_ok (a8_ok (a8_ok (a8_ok h4 u) z) y) x) e
  | f q u z y x =>
    have hl : 4680 + (8 * (8 * (8 * (8 * q.num + u.num) + z.num) + y.num) + x.num) < n := hl
    rcases ifV_t h with h | h
    · have := Nat.le_of_ble_eq_true h; omega
    · obtain ⟨h2, h⟩ := ifV_ok h
      rcases ifV_t h with h | h
      · have := Nat.le_of_ble_eq_true h; omega
      · obtain ⟨h3, h⟩ := ifV_ok h
        rcases ifV_t h with h | h
        · have := Nat.le_of_ble_eq_true h; omega
        · obtain ⟨h4, h⟩ := ifV_ok h
          have := Nat.le_of_ble_eq_true h; omega
  | far q =>
    have hl : 37448 + q < n := hl
    rcases ifV_t h with h | h
    · have := Nat.le_of_ble_eq_true h; omega
    · obtain ⟨h2, h⟩ := ifV_ok h
      rcases ifV_t h with h | h
      · have := Nat.le_of_ble_eq_true h; omega
      · obtain ⟨h3, h⟩ := ifV_ok h
        rcases ifV_t h with h | h
        · have := Nat.le_of_ble_eq_true h; omega
        · obtain ⟨h4, h⟩ := ifV_ok h
          have := Nat.le_of_ble_eq_true h; omega
theorem cE_ok {N : Nat} {ρ : Ren} : ∀ {l : List ME} {m : List MapEntry}, cE N l = true → ERs ρ l m → ERs (cut N ρ) l m
  | [], _, _, h => h
  | e :: l, _, c, ⟨m, t, e1, ⟨a, b, d⟩, e3⟩ => by
    obtain ⟨c1, c⟩ := ifV_ok (show ifV (cA N e.k) (ifV (cA N e.v) (cE N l) false) false = true from c)
    obtain ⟨c2, c⟩ := ifV_ok c
    exact ⟨m, t, e1, ⟨cA_V c1 a, cA_V c2 b, d⟩, cE_ok c e3⟩
theorem cB_ok {N : Nat} {ρ : Ren} {w : World} {g t : Nat} : ∀ {b : Blk}, cB N b = true → BR ρ b g t w → BR (cut N ρ) b g t w
  | .ce tr n _ _, c, ⟨cs, e, fz, h1, h2, h3, h4, h5⟩ => ⟨cs, e, fz, h1, h2, h3, fun i v hv => by
      obtain ⟨a, u, b, d⟩ := h4 i v hv
      exact ⟨a, u, b, cA_V (cT_ok (show cT N tr n = true from c) _ _ hv (by rw [toN_path]; exact a)) d⟩, h5⟩
  | .mp es _, c, ⟨ents, h1, h2⟩ => ⟨ents, h1, cE_ok c h2⟩
  | .ch _ _ _ _, c, ⟨b, h1, h2⟩ => ⟨b, h1, (cA_R _ c).2 _ h2⟩
  | .it none _ _ _, _, h => h
  | .it (some id) _ _ _, c, ⟨mm, h1, b, t, h3, h4⟩ => ⟨mm, h1, b, t, (cut_lt (show okI N id = true from c)).trans h3, h4⟩
/-- Only blocks that stood there, all of them checked. -/
theorem bldH_ok {h : Hp} {N : Nat} : ∀ {l : List Pa} {t : Hp} {k : Hp → Bool}, cL' N h l = true → (∀ id b, getP id t = some b → getP id h = some b ∧ okI N id = true ∧ cB N b = true) → bldH h l t k = true →
    ∃ t', k t' = true ∧ ∀ id b, getP id t' = some b → getP id h = some b ∧ okI N id = true ∧ cB N b = true
  | [], t, k, _, ht, e => ⟨t, e, ht⟩
  | id :: l, t, k, c, ht, e => by
    obtain ⟨c1, c⟩ := ifV_ok (show ifV (okI N id) (ifV (Option.rec (motive := fun _ => Bool) true (cB N) (getP id h)) (cL' N h l) false) false = true from c)
    obtain ⟨c2, c⟩ := ifV_ok c
    have e : Option.rec (motive := fun _ => Bool) (bldH h l t k) (fun b => setK (some b) id t fun t => bldH h l t k) (getP id h) = true := e
    cases e1 : getP id h with
    | none => rw [e1] at e; exact bldH_ok c ht e
    | some b =>
      rw [e1] at e c2
      have e : setK (some b) id t (fun t => bldH h l t k) = true := e
      rw [setK_eq] at e
      refine bldH_ok c (fun i b' hb => ?_) e
      rcases get_set' (some b) i id t with ⟨h4, h5⟩ | ⟨h4, h5⟩
      · rw [h4] at hb; cases hb; subst h5; exact ⟨e1, c1, c2⟩
      · rw [h4] at hb; exact ht i b' hb
theorem bldS_ok {α : T AV} {N : Nat} : ∀ {ks : List Nat} {t : T AV} {k : T AV → Bool}, cS N α ks = true → (∀ i v, getP (path i) t = some v → getP (path i) α = some v ∧ cA N v = true) → bldS α ks t k = true →
    ∃ t', k t' = true ∧ (∀ i v, getP (path i) t' = some v → getP (path i) α = some v ∧ cA N v = true) ∧ (∀ s v, (s ∈ ks ∨ getP (path s) t = some v) → getP (path s) α = some v → getP (path s) t' = some v)
  | [], t, k, _, ht, e => ⟨t, e, ht, fun s v h _ => by rcases h with h | h; · cases h
                                                       · exact h⟩
  | s :: ks, t, k, c, ht, e => by
    obtain ⟨c1, c⟩ := ifV_ok (show ifV (cO' N (getP (path s) α)) (cS N α ks) false = true from c)
    have e : Option.rec (motive := fun _ => Bool) (bldS α ks t k) (fun v => setK (some v) (path s) t fun t => bldS α ks t k) (getP (path s) α) = true := e
    cases e1 : getP (path s) α with
    | none =>
      rw [e1] at e
      obtain ⟨t', h1, h2, h3⟩ := bldS_ok c ht e
      refine ⟨t', h1, h2, fun s' v h hv => h3 s' v ?_ hv⟩
      rcases h with h | h
      · rcases List.mem_cons.1 h with rfl | h
        · rw [e1] at hv; cases hv
        · exact .inl h
      · exact .inr h
    | some v =>
      rw [e1] at e c1
      have e : setK (some v) (path s) t (fun t => bldS α ks t k) = true := e
      rw [setK_eq] at e
      obtain ⟨t', h1, h2, h3⟩ := bldS_ok c (t := setP (some v) (path s) t) (fun i u hu => by
        rcases get_set' (some v) (path i) (path s) t with ⟨h4, h5⟩ | ⟨h4, h5⟩
        · rw [h4] at hu; cases hu; rw [h5]; exact ⟨e1, c1⟩
        · rw [h4] at hu; exact ht i u hu) e
      refine ⟨t', h1, h2, fun s' u h hu => h3 s' u ?_ hu⟩
      rcases get_set' (some v) (path s') (path s) t with ⟨h4, h5⟩ | ⟨h4, h5⟩
      · right; rw [h4]; rw [h5, e1] at hu; exact hu
      · rw [h4]
        rcases h with h | h
        · rcases List.mem_cons.1 h with rfl | h
          · exact absurd rfl h5
          · exact .inl h
        · exact .inr h
theorem gcK_ok {ks : List Nat} {α : T AV} {h : Hp} {k : T AV → Hp → Pa → Bool} (e : gcK ks α h k = true) : ∃ (α' : T AV) (h' : Hp) (N : Nat), k α' h' (path (N + 1)) = true ∧ (∀ s v, s ∈ ks → getP (path s) α = some v → getP (path s) α' = some v) ∧
    ∀ {ρ : Ren} {nx : Pa} {w : World} {tmps : Array Value}, HR ρ h nx w → TR ρ α tmps → HR (cut (N + 1) ρ) h' (path (N + 1)) w ∧ TR (cut (N + 1) ρ) α' tmps ∧ Stp2 ρ h w (cut (N + 1) ρ) h' w := by
  unfold gcK at e
  obtain ⟨vis, st, e⟩ := fin_L α ks _ _ _ e
  obtain ⟨done, m, e⟩ := fin_D h _ _ _ _ _ _ e
  rw [force_eq] at e
  obtain ⟨c1, e⟩ := ifV_ok e
  obtain ⟨c2, e⟩ := ifV_ok e
  obtain ⟨α', e, s1, s2⟩ := bldS_ok (N := Nat.succ m) c1 (fun i v q => by rw [getP_lf] at q; cases q) e
  obtain ⟨h', e, b1⟩ := bldH_ok (N := Nat.succ m) c2 (fun i v q => by rw [getP_lf] at q; cases q) e
  refine ⟨α', h', m, e, fun s v hs hv => s2 s v (.inl hs) hv, fun {ρ nx w tmps} H hT => ⟨⟨fun id p q => ?_, fun id b q => ?_, fun id id' b b' g t t' q q' r r' => ?_⟩, fun t u q => ?_, ⟨rfl, rfl, rfl, Nat.le_refl _, fun _ _ _ => rfl, fun g o => ?_⟩⟩⟩
  · rw [toN_path]; exact (cut_some q).2
  · obtain ⟨q1, q2, q3⟩ := b1 id b q
    obtain ⟨g, t, h1, h2⟩ := H.blk id b q1
    exact ⟨g, t, (cut_lt q2).trans h1, cB_ok q3 h2⟩
  · exact H.inj id id' b b' g t t' (b1 _ _ q).1 (b1 _ _ q').1 (cut_some r).1 (cut_some r').1
  · obtain ⟨q1, q2⟩ := s1 t u q
    exact cA_V q2 (hT t u q1)
  · obtain ⟨id, b, t, h1, h2, h3⟩ := o
    exact .inl ⟨id, b, t, (b1 _ _ h1).1, h2, (cut_some h3).1⟩
end Go.Ev.Cg
