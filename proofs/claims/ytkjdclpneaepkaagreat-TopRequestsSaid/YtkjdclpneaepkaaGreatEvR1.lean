/- TopRequests: the states that a row of requests leaves, reckoned. -/
import Derived.Test.YtkjdclpneaepkaaGreatEv75
import Derived.Test.YtkjdclpneaepkaaGreatEv73
section
set_option linter.unusedVariables false
open Go
namespace Go.Ev.Cg
/-! ### clearing gives one state, whatever comes then -/
def Det (g : Vis) : Prop := ∀ vis st, ∃ vis' st', ∀ k, g vis st k = k vis' st'
theorem Det.id : Det (fun vis st k => k vis st) := fun vis st => ⟨vis, st, fun _ => rfl⟩
theorem Det.seq {f g : Vis} (hf : Det f) (hg : Det g) : Det (fun vis st k => f vis st fun vis st => g vis st k) := fun vis st => by
  obtain ⟨v1, s1, h1⟩ := hf vis st
  obtain ⟨v2, s2, h2⟩ := hg v1 s1
  exact ⟨v2, s2, fun k => (h1 _).trans (h2 k)⟩
theorem det_add (id : Pa) : Det (addId id) := fun vis st => by
  unfold addId
  cases e : getP id vis with
  | none => exact ⟨_, _, fun k => setK_eq _ _ _ _⟩
  | some u => exact ⟨vis, st, fun k => rfl⟩
theorem det_A : ∀ v : AV, Det (vA v) := by
  intro v
  induction v with
  | cn x y ihx ihy => exact (Det.seq ihx ihy :)
  | f fn x y ihx ihy => exact (Det.seq ihx ihy :)
  | ag l ih => exact ih
  | tp l ih => exact ih
  | p id off => exact det_add id
  | sl id a b c => exact det_add id
  | so id a b c => exact det_add id
  | m id => exact det_add id
  | c id => exact det_add id
  | _ => exact Det.id
theorem det_O : ∀ o : Option AV, Det (vO o)
  | none => Det.id
  | some v => det_A v
theorem det_8 {X : Type} {f : X → Vis} (hf : ∀ x, Det (f x)) : ∀ n : N8 X, Det (f8 f n) := fun ⟨a0, a1, a2, a3, a4, a5, a6, a7⟩ =>
  (Det.seq (hf a0) (Det.seq (hf a1) (Det.seq (hf a2) (Det.seq (hf a3) (Det.seq (hf a4) (Det.seq (hf a5) (Det.seq (hf a6) (hf a7)))))))  :)
theorem det_if {c : Bool} {g : Vis} (hg : Det g) : Det (fun vis st k => ifV c (k vis st) (g vis st k)) := fun vis st => by
  cases c with
  | true => exact ⟨vis, st, fun _ => rfl⟩
  | false => exact hg vis st
theorem det_T (t : T AV) (n : Nat) : Det (vT t n) := by
  obtain ⟨t1, t2, t3, t4, t5, z⟩ := t
  exact (Det.seq (det_8 det_O t1) (det_if (c := Nat.ble n 8) (Det.seq (det_8 (det_8 det_O) t2) (det_if (c := Nat.ble n 72) (Det.seq (det_8 (det_8 (det_8 det_O)) t3) (det_if (c := Nat.ble n 584) (det_8 (det_8 (det_8 (det_8 det_O))) t4)))))) :)
theorem det_E : ∀ l : List ME, Det (vE l)
  | [] => Det.id
  | e :: l => (Det.seq (det_A e.k) (Det.seq (det_A e.v) (det_E l)) :)
theorem det_B : ∀ b : Blk, Det (vB b)
  | .ce t n _ _ => det_T t n
  | .mp es _ => det_E es
  | .ch _ buf _ _ => det_A buf
  | .it none _ _ _ => Det.id
  | .it (some id) _ _ _ => det_add id
theorem det_L (α : T AV) : ∀ ks : List Nat, Det (vL ks α)
  | [] => Det.id
  | s :: ks => (Det.seq (det_O (getP (path s) α)) (det_L α ks) :)
theorem det_D (h : Hp) : ∀ (n : Nat) (vis : T Unit) (st done : List Pa) (m : Nat), (∀ k, mkD h n vis st done m k = false) ∨ ∃ done' m', ∀ k, mkD h n vis st done m k = k done' m'
  | 0, _, _, _, _ => .inl fun _ => rfl
  | n + 1, vis, [], done, m => .inr ⟨done, m, fun _ => rfl⟩
  | n + 1, vis, id :: rest, done, m => by
    have e : ∀ k, mkD h (n + 1) vis (id :: rest) done m k = Option.rec (motive := fun _ => Bool) (mkD h n vis rest done (mkD.ifN (Nat.ble (toN id) m) m (toN id)) k) (fun b => vB b vis rest fun vis st => mkD h n vis st (id :: done) (mkD.ifN (Nat.ble (toN id) m) m (toN id)) k) (getP id h) := fun k => rfl
    cases e1 : getP id h with
    | none =>
      rw [e1] at e
      rcases det_D h n vis rest done (mkD.ifN (Nat.ble (toN id) m) m (toN id)) with q | ⟨d, m', q⟩
      · exact .inl fun k => (e k).trans (q k)
      · exact .inr ⟨d, m', fun k => (e k).trans (q k)⟩
    | some b =>
      rw [e1] at e
      obtain ⟨v1, s1, h1⟩ := det_B b vis rest
      rcases det_D h n v1 s1 (id :: done) (mkD.ifN (Nat.ble (toN id) m) m (toN id)) with q | ⟨d, m', q⟩
      · exact .inl fun k => (e k).trans ((h1 _).trans (q k))
      · exact .inr ⟨d, m', fun k => (e k).trans ((h1 _).trans (q k))⟩
theorem det_bldH (h : Hp) : ∀ (l : List Pa) (t : Hp), ∃ t', ∀ k, bldH h l t k = k t'
  | [], t => ⟨t, fun _ => rfl⟩
  | id :: l, t => by
    have e : ∀ k, bldH h (id :: l) t k = Option.rec (motive := fun _ => Bool) (bldH h l t k) (fun b => setK (some b) id t fun t => bldH h l t k) (getP id h) := fun _ => rfl
    cases e1 : getP id h with
    | none => obtain ⟨t', q⟩ := det_bldH h l t; exact ⟨t', fun k => by rw [e, e1]; exact q k⟩
    | some b => obtain ⟨t', q⟩ := det_bldH h l (setP (some b) id t); exact ⟨t', fun k => by rw [e, e1]; show setK (some b) id t (fun t => bldH h l t k) = _; rw [setK_eq]; exact q k⟩
theorem det_bldS (α : T AV) : ∀ (l : List Nat) (t : T AV), ∃ t', ∀ k, bldS α l t k = k t'
  | [], t => ⟨t, fun _ => rfl⟩
  | s :: l, t => by
    have e : ∀ k, bldS α (s :: l) t k = Option.rec (motive := fun _ => Bool) (bldS α l t k) (fun v => setK (some v) (path s) t fun t => bldS α l t k) (getP (path s) α) := fun _ => rfl
    cases e1 : getP (path s) α with
    | none => obtain ⟨t', q⟩ := det_bldS α l t; exact ⟨t', fun k => by rw [e, e1]; exact q k⟩
    | some b => obtain ⟨t', q⟩ := det_bldS α l (setP (some b) (path s) t); exact ⟨t', fun k => by rw [e, e1]; show setK (some b) (path s) t (fun t => bldS α l t k) = _; rw [setK_eq]; exact q k⟩
theorem gcK_det (ks : List Nat) (α : T AV) (h : Hp) : (∀ k, gcK ks α h k = false) ∨ ∃ α' h' nx', ∀ k, gcK ks α h k = k α' h' nx' := by
  obtain ⟨vis, st, h1⟩ := det_L α ks .lf []
  have e : ∀ k, gcK ks α h k = mkD h 100000 vis st [] 0 fun done m => ifV (cS (Nat.succ m) α ks) (ifV (cL' (Nat.succ m) h done) (bldS α ks .lf fun α' => bldH h done .lf fun h' => k α' h' (path (Nat.succ m))) false) false := fun k => h1 _
  rcases det_D h 100000 vis st [] 0 with q | ⟨d, m, q⟩
  · exact .inl fun k => (e k).trans (q _)
  · cases c1 : cS (Nat.succ m) α ks with
    | false => exact .inl fun k => by rw [e, q, c1]; rfl
    | true =>
      cases c2 : cL' (Nat.succ m) h d with
      | false => exact .inl fun k => by rw [e, q, c1, c2]; rfl
      | true =>
        obtain ⟨t1, k1⟩ := det_bldS α ks .lf
        obtain ⟨t2, k2⟩ := det_bldH h d .lf
        refine .inr ⟨t1, t2, path (Nat.succ m), fun k => ?_⟩
        rw [e, q, c1, c2]
        show bldS α ks .lf (fun α' => bldH h d .lf fun h' => k α' h' (path (Nat.succ m))) = _
        rw [k1, k2]
/-- What was cleared: one state; the world stands as it says. -/
theorem gcN_ok {ks : List Nat} {α : T AV} {h : Hp} (e : gcN ks α h (fun _ _ _ => true) = true) : ∃ (α' : T AV) (h' : Hp) (nx' : Pa) (N : Nat), nx' = path (N + 1) ∧ (∀ k, gcN ks α h k = k α' h' nx') ∧ (∀ s v, s ∈ ks → getP (path s) α = some v → getP (path s) α' = some v) ∧
    ∀ {ρ : Ren} {nx : Pa} {w : World} {tmps : Array Value}, HR ρ h nx w → TR ρ α tmps → HR (cut (N + 1) ρ) h' nx' w ∧ TR (cut (N + 1) ρ) α' tmps ∧ Stp2 ρ h w (cut (N + 1) ρ) h' w := by
  rw [gcN_eq] at e
  rcases gcK_det ks α h with q | ⟨α', h', nx', q⟩
  · rw [q] at e; cases e
  · classical
    have e2 : gcK ks α h (fun a b c => decide (a = α' ∧ b = h' ∧ c = nx')) = true := by rw [q]; simp
    obtain ⟨a, b, N, k1, k2, k3⟩ := gcK_ok e2
    obtain ⟨rfl, rfl, k4⟩ := of_decide_eq_true k1
    rw [k4] at k3
    exact ⟨a, b, nx', N, k4.symm, fun k => by rw [gcN_eq]; exact q k, k2, k3⟩
/-! ### a state that stands in another one -/
noncomputable section
def q8 {X : Type} (f : X → X → Bool) (a b : N8 X) : Bool := N8.rec (motive := fun _ => Bool) (fun a0 a1 a2 a3 a4 a5 a6 a7 => N8.rec (motive := fun _ => Bool) (fun b0 b1 b2 b3 b4 b5 b6 b7 => ifV (f a0 b0) (ifV (f a1 b1) (ifV (f a2 b2) (ifV (f a3 b3) (ifV (f a4 b4) (ifV (f a5 b5) (ifV (f a6 b6) (f a7 b7) false) false) false) false) false) false) false) b) a
def qO {X : Type} (f : X → X → Bool) (a b : Option X) : Bool := Option.rec (motive := fun _ => Bool) true (fun y => Option.rec (motive := fun _ => Bool) false (fun x => f x y) a) b
/-- What stands in the second one, below n, stands in the first one. -/
def qT {X : Type} (f : X → X → Bool) (t t' : T X) (n : Nat) : Bool := T.rec (motive := fun _ => Bool) (fun t1 t2 t3 t4 _ _ => T.rec (motive := fun _ => Bool) (fun s1 s2 s3 s4 _ _ => ifV (q8 (qO f) t1 s1) (ifV (Nat.ble n 8) true (ifV (q8 (q8 (qO f)) t2 s2) (ifV (Nat.ble n 72) true (ifV (q8 (q8 (q8 (qO f))) t3 s3) (ifV (Nat.ble n 584) true (ifV (q8 (q8 (q8 (q8 (qO f)))) t4 s4) (Nat.ble n 4680) false)) false)) false)) false) t') t
end
theorem q8_ok {X : Type} {f : X → X → Bool} {a b : N8 X} (h : q8 f a b = true) (x : E8) : f (sel x a) (sel x b) = true := by
  obtain ⟨a0, a1, a2, a3, a4, a5, a6, a7⟩ := a
  obtain ⟨b0, b1, b2, b3, b4, b5, b6, b7⟩ := b
  obtain ⟨h0, h⟩ := ifV_ok (show ifV (f a0 b0) (ifV (f a1 b1) (ifV (f a2 b2) (ifV (f a3 b3) (ifV (f a4 b4) (ifV (f a5 b5) (ifV (f a6 b6) (f a7 b7) false) false) false) false) false) false) false = true from h)
  obtain ⟨h1, h⟩ := ifV_ok h
  obtain ⟨h2, h⟩ := ifV_ok h
  obtain ⟨h3, h⟩ := ifV_ok h
  obtain ⟨h4, h⟩ := ifV_ok h
  obtain ⟨h5, h⟩ := ifV_ok h
  obtain ⟨h6, h⟩ := ifV_ok h
  cases x <;> assumption
theorem qO_ok {X : Type} {f : X → X → Bool} {a b : Option X} (h : qO f a b = true) {y : X} (e : b = some y) : ∃ x, a = some x ∧ f x y = true := by
  subst e
  cases a with
  | none => cases h
  | some x => exact ⟨x, rfl, h⟩
theorem qT_ok {X : Type} {f : X → X → Bool} {t t' : T X} {n : Nat} (h : qT f t t' n = true) {p : Pa} {y : X} (e : getP p t' = some y) (hl : toN p < n) : ∃ x, getP p t = some x ∧ f x y = true := by
  obtain ⟨t1, t2, t3, t4, t5, z⟩ := t
  obtain ⟨s1, s2, s3, s4, s5, z'⟩ := t'
  obtain ⟨h1, h⟩ := ifV_ok (show ifV (q8 (qO f) t1 s1) (ifV (Nat.ble n 8) true (ifV (q8 (q8 (qO f)) t2 s2) (ifV (Nat.ble n 72) true (ifV (q8 (q8 (q8 (qO f))) t3 s3) (ifV (Nat.ble n 584) true (ifV (q8 (q8 (q8 (q8 (qO f)))) t4 s4) (Nat.ble n 4680) false)) false)) false)) false = true from h)
  cases p with
  | a x => exact qO_ok (q8_ok h1 x) e
  | b y x =>
    have hl : 8 + (8 * y.num + x.num) < n := hl
    rcases ifV_t h with h | h
    · have := Nat.le_of_ble_eq_true h; omega
    · obtain ⟨h2, h⟩ := ifV_ok h
      exact qO_ok (q8_ok (q8_ok h2 y) x) e
  | c z y x =>
    have hl : 72 + (8 * (8 * z.num + y.num) + x.num) < n := hl
    rcases ifV_t h with h | h
    · have := Nat.le_of_ble_eq_true h; omega
    · obtain ⟨h2, h⟩ := ifV_ok h
      rcases ifV_t h with h | h
      · have := Nat.le_of_ble_eq_true h; omega
      · obtain ⟨h3, h⟩ := ifV_ok h
        exact qO_ok (q8_ok (q8_ok (q8_ok h3 z) y) x) e
  | d u z y x =>
    have hl : 584 + (8 * (8 * (8 * u.num + z.num) + y.num) + x.num) < n := hl
    rcases ifV_t h with h | h
    · have := Nat.le_of_ble_eq_true h; omega
    · obtain ⟨h2, h⟩ := ifV_ok h
      rcases ifV_t h with h | h
      · have := Nat.le_of_ble_eq_true h; omega
      · obtain ⟨h3, h⟩ := ifV_ok h
        rcases ifV_t h with h | h
        · have := Nat.le_of_ble_eq_true h; omega
        · obtain ⟨h4, h⟩ := ifV_ok h
          exact qO_ok (q8_ok (q8_ok (q8_ok (q8_ok h4 u) z) y) x) e
  | f q u z y x =>
    have hl : 4680 + (8 * (8 * (8 * (8 * q.num + u.num) + z.num) + y.num) + x.num) < n := hl
    rcases ifV_t h with h | h
    · have := Nat.le_of_ble_eq_true h; omega
    · obtain ⟨h2, h⟩ := ifV_ok h
      rcases ifV_t h with h | h
      · have := Nat.le_of_ble_eq_true h; omega
      · obtain ⟨h3, h⟩ := ifV_ok h
        rcases ifV_t h with h | h
        · have := Nat.le_of_ble_eq_true h; omega
        · obtain ⟨h4, h⟩ := ifV_ok h
          have := Nat.le_of_ble_eq_true h; omega
  | far q =>
    have hl : 37448 + q < n := hl
    rcases ifV_t h with h | h
    · have := Nat.le_of_ble_eq_true h; omega
    · obtain ⟨h2, h⟩ := ifV_ok h
      rcases ifV_t h with h | h
      · have := Nat.le_of_ble_eq_true h; omega
      · obtain ⟨h3, h⟩ := ifV_ok h
        rcases ifV_t h with h | h
        · have := Nat.le_of_ble_eq_true h; omega
        · obtain ⟨h4, h⟩ := ifV_ok h
          have := Nat.le_of_ble_eq_true h; omega
noncomputable section
def eqBo (a b : Bool) : Bool := Bool.rec (motive := fun _ => Bool) (Bool.not b) b a
def qEs (l : List ME) : List ME → Bool := List.rec (motive := fun _ => List ME → Bool) (fun m => List.rec (motive := fun _ => Bool) true (fun _ _ _ => false) m) (fun e _ ih m => List.rec (motive := fun _ => Bool) false (fun d r _ => ifV (eqX e.k d.k) (ifV (eqX e.v d.v) (ifV (Nat.beq e.bn d.bn) (ih r) false) false) false) m) l
def qB (b b' : Blk) : Bool := Blk.rec (motive := fun _ => Bool) (fun t n rw pl => Blk.rec (motive := fun _ => Bool) (fun t' n' rw' pl' => ifV (Nat.beq n n') (ifV (eqBo rw rw') (ifV (eqBo pl pl') (qT eqX t t' n) false) false) false) (fun _ _ => false) (fun _ _ _ _ => false) (fun _ _ _ _ => false) b')
  (fun es clk => Blk.rec (motive := fun _ => Bool) (fun _ _ _ _ => false) (fun es' clk' => ifV (Nat.beq clk clk') (qEs es es') false) (fun _ _ _ _ => false) (fun _ _ _ _ => false) b')
  (fun c buf s r => Blk.rec (motive := fun _ => Bool) (fun _ _ _ _ => false) (fun _ _ => false) (fun c' buf' s' r' => ifV (Nat.beq c c') (ifV (eqX buf buf') (ifV (Nat.beq s s') (Nat.beq r r') false) false) false) (fun _ _ _ _ => false) b') (fun _ _ _ _ => false) b
/-- The second state stands in the first one. -/
def subS (h h' : Hp) (nx nx' : Pa) : Bool := ifV (Nat.ble (toN nx) (toN nx')) (qT qB h h' (toN nx')) false
end
theorem eqBo_ok {a b : Bool} (h : eqBo a b = true) : a = b := by cases a <;> cases b <;> first | rfl | cases h
theorem eqX_V {ρ : Ren} {a b : AV} (h : eqX a b = true) {v : Value} (k : V ρ a v) : V ρ b v := (eqA_V a b (eqX_ok a b h)).1 v k
theorem qEs_ok {ρ : Ren} : ∀ {l m : List ME} {e : List MapEntry}, qEs l m = true → ERs ρ l e → ERs ρ m e
  | [], [], _, _, h => h
  | [], _ :: _, _, c, _ => by cases c
  | _ :: _, [], _, c, _ => by cases c
  | e :: l, d :: m, _, c, ⟨x, t, e1, ⟨a, b, k⟩, e3⟩ => by
    obtain ⟨c1, c⟩ := ifV_ok (show ifV (eqX e.k d.k) (ifV (eqX e.v d.v) (ifV (Nat.beq e.bn d.bn) (qEs l m) false) false) false = true from c)
    obtain ⟨c2, c⟩ := ifV_ok c
    obtain ⟨c3, c⟩ := ifV_ok c
    exact ⟨x, t, e1, ⟨eqX_V c1 a, eqX_V c2 b, k.trans (Nat.eq_of_beq_eq_true c3)⟩, qEs_ok c e3⟩
theorem qB_ok {ρ ρ0 : Ren} {w w0 : World} {g t g0 t0 : Nat} : ∀ {b b' : Blk}, qB b b' = true → BR ρ b g t w → BR ρ0 b' g0 t0 w0 → BR ρ b' g t w ∧ b'.own = b.own
  | .ce tr n rw' pl, .ce tr' n' rw'' pl', c, ⟨cs, e, fz, h1, h2, h3, h4, h5⟩, ⟨_, _, _, _, _, _, k4, _⟩ => by
    obtain ⟨c1, d1⟩ := ifV_ok (show ifV (Nat.beq n n') (ifV (eqBo rw' rw'') (ifV (eqBo pl pl') (qT eqX tr tr' n) false) false) false = true from c)
    obtain ⟨c2, d2⟩ := ifV_ok d1
    obtain ⟨c3, d3⟩ := ifV_ok d2
    cases Nat.eq_of_beq_eq_true c1
    cases eqBo_ok c2
    cases eqBo_ok c3
    refine ⟨⟨cs, e, fz, h1, h2, h3, fun i v hv => ?_, h5⟩, rfl⟩
    have hi := (k4 i v hv).1
    obtain ⟨x, q1, q2⟩ := qT_ok d3 hv (by rw [toN_path]; exact hi)
    obtain ⟨-, u, q3, q4⟩ := h4 i x q1
    exact ⟨hi, u, q3, eqX_V q2 q4⟩
  | .mp es clk, .mp es' clk', c, ⟨ents, h1, h2⟩, _ => by
    obtain ⟨c1, d1⟩ := ifV_ok (show ifV (Nat.beq clk clk') (qEs es es') false = true from c)
    cases Nat.eq_of_beq_eq_true c1
    exact ⟨⟨ents, h1, qEs_ok d1 h2⟩, rfl⟩
  | .ch cp buf s r, .ch cp' buf' s' r', c, ⟨bb, h1, h2⟩, _ => by
    obtain ⟨c1, d1⟩ := ifV_ok (show ifV (Nat.beq cp cp') (ifV (eqX buf buf') (ifV (Nat.beq s s') (Nat.beq r r') false) false) false = true from c)
    obtain ⟨c2, d2⟩ := ifV_ok d1
    obtain ⟨c3, d3⟩ := ifV_ok d2
    cases Nat.eq_of_beq_eq_true c1
    cases Nat.eq_of_beq_eq_true c3
    cases Nat.eq_of_beq_eq_true d3
    exact ⟨⟨bb, h1, (eqA_V _ _ (eqX_ok _ _ c2)).2 _ h2⟩, rfl⟩
  | .it .., .ce .., c, _, _ => by cases c
  | .it .., .mp .., c, _, _ => by cases c
  | .it .., .ch .., c, _, _ => by cases c
  | .it .., .it .., c, _, _ => by cases c
  | .ce .., .mp .., c, _, _ => by cases c
  | .ce .., .ch .., c, _, _ => by cases c
  | .ce .., .it .., c, _, _ => by cases c
  | .mp .., .ce .., c, _, _ => by cases c
  | .mp .., .ch .., c, _, _ => by cases c
  | .mp .., .it .., c, _, _ => by cases c
  | .ch .., .ce .., c, _, _ => by cases c
  | .ch .., .mp .., c, _, _ => by cases c
  | .ch .., .it .., c, _, _ => by cases c
/-- A world that stands as the first state says stands as the second one says. -/
theorem subS_ok {ρ ρ0 : Ren} {h h' : Hp} {nx nx' : Pa} {w w0 : World} (c : subS h h' nx nx' = true) (H : HR ρ h nx w) (H0 : HR ρ0 h' nx' w0) : HR ρ h' nx' w ∧ ∀ g, Own ρ h' g → Own ρ h g := by
  obtain ⟨c1, c2⟩ := ifV_ok (show ifV (Nat.ble (toN nx) (toN nx')) (qT qB h h' (toN nx')) false = true from c)
  have c1 := Nat.le_of_ble_eq_true c1
  have key : ∀ id b', getP id h' = some b' → ∃ b, getP id h = some b ∧ (∀ g t, ρ id = some (g, t) → BR ρ b' g t w) ∧ b'.own = b.own := fun id b' e => by
    obtain ⟨g0, t0, k1, k2⟩ := H0.blk id b' e
    obtain ⟨b, q1, q2⟩ := qT_ok c2 e (H0.dom id _ k1)
    obtain ⟨g, t, k3, k4⟩ := H.blk id b q1
    have := qB_ok q2 k4 k2
    exact ⟨b, q1, fun g' t' e' => (by rw [k3] at e'; cases e'; exact this.1), this.2⟩
  refine ⟨⟨fun id p q => Nat.lt_of_lt_of_le (H.dom id p q) c1, fun id b' e => ?_, fun id id' b b' g t t' e e' r r' => ?_⟩, fun g ⟨id, b', t, e, o, r⟩ => ?_⟩
  · obtain ⟨b, q1, q2, -⟩ := key id b' e
    obtain ⟨g, t, k3, -⟩ := H.blk id b q1
    exact ⟨g, t, k3, q2 g t k3⟩
  · obtain ⟨b1, q1, -, -⟩ := key id b e
    obtain ⟨b2, q2, -, -⟩ := key id' b' e'
    exact H.inj id id' b1 b2 g t t' q1 q2 r r'
  · obtain ⟨b, q1, -, q3⟩ := key id b' e
    exact ⟨id, b, t, q1, by rw [← q3]; exact o, r⟩
end Go.Ev.Cg
end
section
set_option linter.unusedVariables false
open Go Go.Ev Go.Proofs
namespace Go.Proofs.YtkjdclpneaepkaaGreat.Rq
noncomputable section
abbrev KB := T AV → Hp → Pa → Bool
/-- A call's answer: well. -/
def errK (v : AV) (k : Bool) : Bool := AV.rec (motive := fun _ => Bool → Bool) (fun _ => false) (fun _ _ _ _ _ => false) (fun _ _ => false) (fun _ _ _ => false) (fun _ _ => false) (fun _ => false) (fun _ _ _ => false) (fun _ => false) (fun _ => false) (fun _ _ _ _ _ => false) (fun _ _ _ _ _ => false) (fun _ => false) (fun _ _ => false) (fun _ => false) (fun _ _ => false) (fun _ => false) (fun _ _ _ _ _ _ => false)
  (fun l _ k => match l with | .cn (.i .i64 (.ofNat 0)) _ => k | _ => false) (fun _ _ _ => false) v k
def rvB (r : Rv) (k : AV → Hp → Pa → Bool) : Bool := Rv.rec (motive := fun _ => Bool) (fun _ => false) k r
/-- What is asked: the request 10 + v of the transaction t. -/
def ask (t v : Nat) : AV := .ag (.cn (.i .i64 (.ofNat 4)) (.cn (.i .i64 (.ofNat (Nat.add 10 v))) (.cn (.i .i64 (.ofNat 0)) (.cn (.i .i64 (.ofNat t)) (.cn (.s [113]) (.cn (.s [98, Nat.add 48 v]) (.cn .ns .nl)))))))
def tid : Nat := 4294967297
def askK (w : AV) (v : Nat) (h : Hp) (nx : Pa) (k : AV → Hp → Pa → Bool) : Bool := rvB (cY 20 (.cn w (.cn (.i .i64 (.ofNat 1)) (.cn (ask tid v) .nl))) h nx) k
/-- The frame of what is still asked: the world, the transaction. -/
def f46 (α : T AV) : T AV := setP (getP (path 6) α) (path 6) (setP (getP (path 4) α) (path 4) .lf)
/-- The same request twice, then what nobody reaches is dropped. -/
def G (v : Nat) (α : T AV) (h : Hp) (nx : Pa) (k : KB) : Bool := Option.rec (motive := fun _ => Bool) false (fun w => askK w v h nx fun r h nx => errK r (askK w v h nx fun r h nx => errK r (Cg.gcN [4, 6] (f46 α) h k))) (getP (path 4) α)
def C6 : Code := restC Tryz.f6 4
def sL (x : Code) : Code := match x with | .seq a _ => a | _ => .skip
def sR (x : Code) : Code := match x with | .seq _ b => b | _ => .skip
/-- The world, a session, a transaction; the argument stands in slot 0. -/
def r0 (x0 : AV) : Rc := .nx (setP (some x0) (path 0) .lf) .lf (Pa.succ Pa.e)
def r1 (x0 : AV) : Rc := nxt 122 (sL C6) (r0 x0)
def r2 (x0 : AV) : Rc := nxt 122 (sL (sR C6)) (r1 x0)
def r3 (x0 : AV) : Rc := nxt 122 (sL (sR (sR C6))) (r2 x0)
def S0 (x0 : AV) (k : KB) : Bool := Cg.ifV (isNx (r3 x0)) (Cg.gcN [4, 6] (rA (r3 x0)) (rH (r3 x0)) k) false
def S (x0 : AV) (σ : List Nat) : KB → Bool := List.rec (motive := fun _ => KB → Bool) (S0 x0) (fun v _ ih k => ih fun α h nx => G v α h nx k) σ
def memN (v : Nat) (σ : List Nat) : Bool := List.rec (motive := fun _ => Bool) false (fun x _ ih => Bool.rec (motive := fun _ => Bool) ih true (Nat.beq x v)) σ
def five (f : Nat → Bool) : Bool := Cg.ifV (f 0) (Cg.ifV (f 1) (Cg.ifV (f 2) (Cg.ifV (f 3) (f 4) false) false) false) false
noncomputable def fn6 : Func := Tryz.f6
/-- What stands behind the loop. -/
def Z6 : Code := sR (sR (sR (sR (sR C6))))
/-- The end of the law, n requests having come. -/
def fin6 (n : Nat) (α : T AV) (h : Hp) (nx : Pa) : Bool := okT (fin (cRes Tryz.prog fn6.results.toList) (ev 122 Z6 (setP (some (.i .i64 (.ofNat n))) (path 7) (f46 α)) h nx))
/-- The transaction's number stands where it stood. -/
def tidB (α : T AV) (h : Hp) : Bool := Option.rec (motive := fun _ => Bool) false (fun v => match v with
  | .p id off => Option.rec (motive := fun _ => Bool) false (fun b => match b with
    | .ce t _ _ _ => Option.rec (motive := fun _ => Bool) false (fun u => eqA u (.i .i64 (.ofNat tid))) (getP (path (Nat.succ off)) t)
    | _ => false) (getP id h)
  | _ => false) (getP (path 6) α)
/-- A state by itself: the end is well; what came already turns nothing. -/
def chk (σ : List Nat) (α : T AV) (h : Hp) (nx : Pa) : Bool := Cg.ifV (tidB α h) (Cg.ifV (fin6 σ.length α h nx) (five fun v => Bool.rec (motive := fun _ => Bool) true (G v α h nx fun _ h2 n2 => Cg.subS h2 h n2 nx) (memN v σ)) false) false
/-- From a state on, d values more: what is new leads to such a state. -/
def tree (d : Nat) : List Nat → T AV → Hp → Pa → Bool := Nat.rec (motive := fun _ => List Nat → T AV → Hp → Pa → Bool) chk
  (fun _ ih σ α h nx => Cg.ifV (chk σ α h nx) (five fun v => Bool.rec (motive := fun _ => Bool) (G v α h nx fun α' h' nx' => ih (v :: σ) α' h' nx') true (memN v σ)) false) d
end
end Go.Proofs.YtkjdclpneaepkaaGreat.Rq
end
