/- TopRequests: what a request does; the law s start and end. -/
import Derived.Test.YtkjdclpneaepkaaGreatEvR1
import Derived.Test.YtkjdclpneaepkaaGreatEv57
section
set_option linter.unusedVariables false
open Go Go.Ev Go.Proofs Go.RowKit
namespace Go.Proofs.YtkjdclpneaepkaaGreat.Rq
theorem callY {f : Nat} {args : AV} {h : Hp} {nx : Pa} {av : AV} {h' : Hp} {nx' : Pa} {ρ : Ren} {w : World} {vs : List Value} (H : HR ρ h nx w) (hv : Vs ρ args vs) (e : cY f args h nx = .ok av h' nx') :
    Calls Tryz.prog f vs.toArray w fun x w' => ∃ ρ' v, x = .returned v ∧ V ρ' av v ∧ HR ρ' h' nx' w' ∧ Stp ρ h w ρ' h' w' :=
  (okCY f args h nx av h' nx' ρ w vs H hv e).2.mono fun x w' ⟨ρ', v, k1, k2, k3, k4⟩ => ⟨ρ', v, k1, k2, k3, k4⟩
/-- A call from an empty memory: its answer, if it has no place in it, anywhere; what was there stays. -/
theorem callFlat {f : Nat} {args av : AV} {h1 : Hp} {n1 : Pa} {vs : List Value} (hv : Vs (fun _ => none) args vs) (e : cY f args .lf .e = .ok av h1 n1) (w : World) :
    Calls Tryz.prog f vs.toArray w fun x w' => ∃ ρ' v, x = .returned v ∧ V ρ' av v ∧ w'.os = w.os ∧ w'.tape = w.tape ∧ w'.output = w.output ∧ w.heap.size ≤ w'.heap.size ∧ ∀ g, g < w.heap.size → w'.heap[g]? = w.heap[g]? :=
  (callY (H00 w) hv e).mono fun x w' ⟨ρ', v, k1, k2, k3, k4⟩ => ⟨ρ', v, k1, k2, k4.os, k4.tape, k4.output, k4.size, fun g hg => k4.keep g hg fun ⟨id, b, t, q, _⟩ => by rw [getP_lf] at q; cases q⟩
noncomputable def txtB (v : Nat) : Bool := Rv.rec (motive := fun _ => Bool) (fun _ => false) (fun a _ _ => eqA a (.s [Nat.add 48 v])) (cY 18 (.cn (.i .i64 (.ofNat v)) .nl) .lf .e)
theorem txt5 : five txtB = true := by kernel_rfl
theorem five_ok {f : Nat → Bool} (h : five f = true) (v : Nat) (hv : v < 5) : f v = true := by
  obtain ⟨h0, h⟩ := Cg.ifV_ok (show Cg.ifV (f 0) (Cg.ifV (f 1) (Cg.ifV (f 2) (Cg.ifV (f 3) (f 4) false) false) false) false = true from h)
  obtain ⟨h1, h⟩ := Cg.ifV_ok h
  obtain ⟨h2, h⟩ := Cg.ifV_ok h
  obtain ⟨h3, h4⟩ := Cg.ifV_ok h
  match v, hv with
  | 0, _ => exact h0
  | 1, _ => exact h1
  | 2, _ => exact h2
  | 3, _ => exact h3
  | 4, _ => exact h4
/-- The text of a small number. -/
theorem text_any (v : Nat) (hv : v < 5) (w : World) : Calls Tryz.prog 18 #[.int .i64 (v : Int)] w fun x w' => x = .returned (.string (bsOf [48 + v])) ∧ w'.os = w.os ∧ w'.tape = w.tape ∧ w'.output = w.output ∧ w.heap.size ≤ w'.heap.size ∧ ∀ g, g < w.heap.size → w'.heap[g]? = w.heap[g]? := by
  have h := five_ok txt5 v hv
  unfold txtB at h
  cases e : cY 18 (.cn (.i .i64 (.ofNat v)) .nl) .lf .e with
  | bad n => rw [e] at h; cases h
  | ok av h1 n1 =>
    rw [e] at h
    refine (callFlat (args := .cn (.i .i64 (.ofNat v)) .nl) (vs := [.int .i64 (v : Int)]) ⟨_, _, rfl, rfl, rfl⟩ e w).mono fun x w' ⟨ρ', u, k1, k2, k3, k4, k5, k6, k7⟩ => ⟨?_, k3, k4, k5, k6, k7⟩
    rw [k1]
    have := (eqA_V (ρ := ρ') av (.s [48 + v]) h).1 u k2
    rw [show u = _ from this]
end Go.Proofs.YtkjdclpneaepkaaGreat.Rq
end
section
set_option linter.unusedVariables false
open Go Go.Ev Go.Proofs Go.RowKit
namespace Go.Proofs.YtkjdclpneaepkaaGreat.Rq
theorem rvB_ok {r : Rv} {k : AV → Hp → Pa → Bool} (h : rvB r k = true) : ∃ av h' nx', r = .ok av h' nx' ∧ k av h' nx' = true := by
  cases r with
  | bad n => cases h
  | ok av h' nx' => exact ⟨av, h', nx', rfl, h⟩
theorem errK_two (v : AV) : (∀ k, errK v k = false) ∨ ((∃ l, v = .ag (.cn (.i .i64 (.ofNat 0)) l)) ∧ ∀ k, errK v k = k) := by
  cases v with
  | ag l =>
    cases l with
    | cn a b =>
      cases a with
      | i k n =>
        cases n with
        | ofNat m =>
          cases m with
          | zero => cases k <;> first | exact .inr ⟨⟨b, rfl⟩, fun k => rfl⟩ | exact .inl fun k => rfl
          | succ m => cases k <;> exact .inl fun k => rfl
        | negSucc m => cases k <;> exact .inl fun k => rfl
      | _ => exact .inl fun k => rfl
    | _ => exact .inl fun k => rfl
  | _ => exact .inl fun k => rfl
theorem errK_ok {v : AV} {k : Bool} (h : errK v k = true) : (∃ l, v = .ag (.cn (.i .i64 (.ofNat 0)) l)) ∧ (∀ k, errK v k = k) ∧ k = true := by
  rcases errK_two v with q | ⟨q1, q2⟩
  · rw [q] at h; cases h
  · exact ⟨q1, q2, by rw [q2] at h; exact h⟩
theorem G_eq {v : Nat} {α : T AV} {h : Hp} {nx : Pa} {k : KB} (e : G v α h nx k = true) : ∃ w r1 h1 n1 r2 h2 n2 l1 l2, getP (path 4) α = some w ∧ cY 20 (.cn w (.cn (.i .i64 (.ofNat 1)) (.cn (ask tid v) .nl))) h nx = .ok r1 h1 n1 ∧ r1 = .ag (.cn (.i .i64 (.ofNat 0)) l1) ∧
    cY 20 (.cn w (.cn (.i .i64 (.ofNat 1)) (.cn (ask tid v) .nl))) h1 n1 = .ok r2 h2 n2 ∧ r2 = .ag (.cn (.i .i64 (.ofNat 0)) l2) ∧ Cg.gcN [4, 6] (f46 α) h2 k = true ∧ ∀ k', G v α h nx k' = Cg.gcN [4, 6] (f46 α) h2 k' := by
  cases e4 : getP (path 4) α with
  | none => unfold G at e; rw [e4] at e; cases e
  | some w =>
    have eG : ∀ k, G v α h nx k = askK w v h nx fun r h nx => errK r (askK w v h nx fun r h nx => errK r (Cg.gcN [4, 6] (f46 α) h k)) := fun k => by unfold G; rw [e4]
    rw [eG] at e
    obtain ⟨q1, h1, n1, c1, e⟩ := rvB_ok e
    obtain ⟨⟨l1, d1⟩, t1, e⟩ := errK_ok e
    obtain ⟨q2, h2, n2, c2, e⟩ := rvB_ok e
    obtain ⟨⟨l2, d2⟩, t2, e⟩ := errK_ok e
    refine ⟨w, q1, h1, n1, q2, h2, n2, l1, l2, rfl, c1, d1, c2, d2, e, fun k' => ?_⟩
    rw [eG]
    unfold askK
    rw [c1]
    show errK q1 (rvB (cY _ _ h1 n1) _) = _
    rw [t1, c2]
    show errK q2 _ = _
    rw [t2]
theorem gcN_two (ks : List Nat) (α : T AV) (h : Hp) : (∀ k, Cg.gcN ks α h k = false) ∨ ∃ α' h' nx', ∀ k, Cg.gcN ks α h k = k α' h' nx' := by
  rcases Cg.gcK_det ks α h with q | ⟨a, b, c, q⟩
  · exact .inl fun k => by rw [Cg.gcN_eq]; exact q k
  · exact .inr ⟨a, b, c, fun k => by rw [Cg.gcN_eq]; exact q k⟩
theorem G_two (v : Nat) (α : T AV) (h : Hp) (nx : Pa) : (∀ k, G v α h nx k = false) ∨ ∃ α' h' nx', ∀ k, G v α h nx k = k α' h' nx' := by
  by_cases q : ∃ k, G v α h nx k = true
  · obtain ⟨k, e⟩ := q
    obtain ⟨_, _, _, _, _, h2, _, _, _, _, _, _, _, _, _, e2⟩ := G_eq e
    rcases gcN_two [4, 6] (f46 α) h2 with q | ⟨a, b, c, q⟩
    · exact .inl fun k => (e2 k).trans (q k)
    · exact .inr ⟨a, b, c, fun k => (e2 k).trans (q k)⟩
  · exact .inl fun k => by
      cases e : G v α h nx k with
      | false => rfl
      | true => exact absurd ⟨k, e⟩ q
theorem ifV_two {b : Bool} {f : KB → Bool} (h : (∀ k, f k = false) ∨ ∃ α' h' nx', ∀ k, f k = k α' h' nx') : (∀ k, Cg.ifV b (f k) false = false) ∨ ∃ α' h' nx', ∀ k : KB, Cg.ifV b (f k) false = k α' h' nx' := by
  cases b with
  | false => exact .inl fun k => rfl
  | true => exact h
/-- A row of requests leaves one state. -/
theorem S_two (x0 : AV) : ∀ σ, (∀ k, S x0 σ k = false) ∨ ∃ α h nx, ∀ k, S x0 σ k = k α h nx
  | [] => by
    have e : ∀ k, S x0 [] k = S0 x0 k := fun k => rfl
    rcases ifV_two (b := isNx (r3 x0)) (gcN_two [4, 6] (rA (r3 x0)) (rH (r3 x0))) with q | ⟨a, b, c, q⟩
    · exact .inl fun k => (e k).trans (q k)
    · exact .inr ⟨a, b, c, fun k => (e k).trans (q k)⟩
  | v :: σ => by
    have e : ∀ k, S x0 (v :: σ) k = S x0 σ fun α h nx => G v α h nx k := fun k => rfl
    rcases S_two x0 σ with q | ⟨α, h, nx, q⟩
    · exact .inl fun k => (e k).trans (q _)
    · rcases G_two v α h nx with q2 | ⟨a, b, c, q2⟩
      · exact .inl fun k => (e k).trans ((q _).trans (q2 k))
      · exact .inr ⟨a, b, c, fun k => (e k).trans ((q _).trans (q2 k))⟩
theorem S_state {x0 : AV} {σ : List Nat} {k : KB} (e : S x0 σ k = true) : ∃ α h nx, (∀ k, S x0 σ k = k α h nx) ∧ k α h nx = true := by
  rcases S_two x0 σ with q | ⟨α, h, nx, q⟩
  · rw [q] at e; cases e
  · exact ⟨α, h, nx, q, (q k).symm.trans e⟩
theorem memN_iff (v : Nat) : ∀ σ, memN v σ = true ↔ v ∈ σ
  | [] => ⟨fun h => (by cases h), fun h => (by cases h)⟩
  | x :: σ => by
    show (Bool.rec (motive := fun _ => Bool) (memN v σ) true (Nat.beq x v)) = true ↔ _
    cases h : Nat.beq x v with
    | true => exact ⟨fun _ => by rw [Nat.eq_of_beq_eq_true h]; exact List.mem_cons_self .., fun _ => rfl⟩
    | false =>
      have : v ≠ x := fun e => by subst e; rw [Nat.beq_refl] at h; cases h
      rw [List.mem_cons, or_iff_right this]
      exact memN_iff v σ
theorem memN_no {v : Nat} {σ : List Nat} (h : v ∉ σ) : memN v σ = false := by
  cases e : memN v σ with
  | false => rfl
  | true => exact absurd ((memN_iff v σ).1 e) h
/-- From a tree to what stands below it. -/
theorem tree_chk {x0 : AV} {σ : List Nat} {d : Nat} (h : S x0 σ (tree d σ) = true) : S x0 σ (chk σ) = true := by
  obtain ⟨α, hp, nx, q, e⟩ := S_state h
  rw [q]
  cases d with
  | zero => exact e
  | succ d => exact (Cg.ifV_ok (show Cg.ifV (chk σ α hp nx) _ false = true from e)).1
theorem tree_step {x0 : AV} {σ : List Nat} {d : Nat} (h : S x0 σ (tree (d + 1) σ) = true) {v : Nat} (hv : v < 5) (hn : v ∉ σ) : S x0 (v :: σ) (tree d (v :: σ)) = true := by
  obtain ⟨α, hp, nx, q, e⟩ := S_state h
  show S x0 σ (fun α h nx => G v α h nx (tree d (v :: σ))) = true
  rw [q]
  have e := five_ok (Cg.ifV_ok (show Cg.ifV (chk σ α hp nx) (five fun v => Bool.rec (motive := fun _ => Bool) (G v α hp nx fun α' h' nx' => tree d (v :: σ) α' h' nx') true (memN v σ)) false = true from e)).2 v hv
  rw [memN_no hn] at e
  exact e
/-- Where a world stands that the row σ of different requests left; Pr: blocks that are not its own. -/
structure St (Pr : Nat → Prop) (x0 : AV) (v4 v6 : Value) (σ : List Nat) (w : World) : Prop where
  lt : ∀ g, Pr g → g < w.heap.size
  st : ∃ α h nx ρ, (∀ k, S x0 σ k = k α h nx) ∧ HR ρ h nx w ∧ (∀ v, getP (path 4) α = some v → V ρ v v4) ∧ (∀ v, getP (path 6) α = some v → V ρ v v6) ∧ ∀ g, Own ρ h g → ¬ Pr g
theorem St.keep {Pr : Nat → Prop} {x0 : AV} {v4 v6 : Value} {σ : List Nat} {w w' : World} (s : St Pr x0 v4 v6 σ w) (hz : w.heap.size ≤ w'.heap.size) (hw : ∀ g, g < w.heap.size → w'.heap[g]? = w.heap[g]?) : St Pr x0 v4 v6 σ w' := by
  obtain ⟨l, α, h, nx, ρ, h1, h2, h3⟩ := s
  exact ⟨fun g q => Nat.lt_of_lt_of_le (l g q) hz, α, h, nx, ρ, h1, HR.keepW h2 hw, h3⟩
theorem St.new {Pr : Nat → Prop} {x0 : AV} {v4 v6 : Value} {σ : List Nat} {w w' : World} (s : St Pr x0 v4 v6 σ w) {g9 : Nat} (h9 : w.heap.size ≤ g9) (h10 : g9 < w'.heap.size) (hz : w.heap.size ≤ w'.heap.size) (hw : ∀ g, g < w.heap.size → w'.heap[g]? = w.heap[g]?) : St (fun g => Pr g ∨ g = g9) x0 v4 v6 σ w' := by
  obtain ⟨l, α, h, nx, ρ, h1, h2, h3, h4, h5⟩ := s
  refine ⟨fun g q => ?_, α, h, nx, ρ, h1, HR.keepW h2 hw, h3, h4, fun g o q => ?_⟩
  · rcases q with q | rfl
    · exact Nat.lt_of_lt_of_le (l g q) hz
    · exact h10
  · rcases q with q | rfl
    · exact h5 g o q
    · obtain ⟨id, b, t, e1, _, e2⟩ := o
      obtain ⟨g, t', e3, e4⟩ := h2.blk id b e1
      rw [e2] at e3
      cases e3
      exact absurd e4.lt (by omega)
theorem St.mono {Pr Pr' : Nat → Prop} {x0 : AV} {v4 v6 : Value} {σ : List Nat} {w : World} (s : St Pr x0 v4 v6 σ w) (h : ∀ g, Pr' g → Pr g) : St Pr' x0 v4 v6 σ w := by
  obtain ⟨l, α, hp, nx, ρ, h1, h2, h3, h4, h5⟩ := s
  exact ⟨fun g q => l g (h g q), α, hp, nx, ρ, h1, h2, h3, h4, fun g o q => h5 g o (h g q)⟩
/-- What a call leaves of what is protected. -/
structure KP (Pr : Nat → Prop) (w w' : World) : Prop where
  os : w'.os = w.os
  tape : w'.tape = w.tape
  output : w'.output = w.output
  size : w.heap.size ≤ w'.heap.size
  keep : ∀ g, Pr g → w'.heap[g]? = w.heap[g]?
/-- The number of the transaction. -/
theorem tid_at {Pr : Nat → Prop} {x0 : AV} {v4 v6 : Value} {σ : List Nat} {w : World} (s : St Pr x0 v4 v6 σ w) (c : S x0 σ (chk σ) = true) : ∃ g off, v6 = .pointer (some ⟨g, off, none⟩) ∧ w.cell? ⟨g, off + 1, none⟩ = some (.int .i64 4294967297) := by
  obtain ⟨l, α, h, nx, ρ, h1, h2, h3, h4, h5⟩ := s
  rw [h1] at c
  have c := (Cg.ifV_ok (show Cg.ifV (tidB α h) _ false = true from c)).1
  unfold tidB at c
  cases e6 : getP (path 6) α with
  | none => rw [e6] at c; cases c
  | some v =>
    rw [e6] at c
    have k6 := h4 v e6
    cases v with
    | p id off =>
      have c : (Option.rec (motive := fun _ => Bool) false (fun b => match b with
        | .ce t _ _ _ => Option.rec (motive := fun _ => Bool) false (fun u => eqA u (.i .i64 (.ofNat tid))) (getP (path (Nat.succ off)) t)
        | _ => false) (getP id h) : Bool) = true := c
      obtain ⟨g, t, e1, rfl⟩ := k6
      cases eb : getP id h with
      | none => rw [eb] at c; cases c
      | some b =>
        rw [eb] at c
        obtain ⟨g', t', q1, q2⟩ := h2.blk id b eb
        rw [e1] at q1
        cases q1
        cases b with
        | ce tr n rw pl =>
          have c : (Option.rec (motive := fun _ => Bool) false (fun u => eqA u (.i .i64 (.ofNat tid))) (getP (path (Nat.succ off)) tr) : Bool) = true := c
          cases eu : getP (path (Nat.succ off)) tr with
          | none => rw [eu] at c; cases c
          | some u =>
            rw [eu] at c
            obtain ⟨cs, e, fz, k1, k2, k3, k4, k5⟩ := q2
            obtain ⟨-, x, k7, k8⟩ := k4 _ _ eu
            have : x = .int .i64 4294967297 := (eqA_V (ρ := ρ) u (.i .i64 (.ofNat tid)) c).1 x k8
            exact ⟨g, off, rfl, by rw [cell_of k1, ← this]; exact k7⟩
        | mp _ _ => cases c
        | ch _ _ _ _ => cases c
        | it _ _ _ _ => cases c
    | _ => cases c
theorem TR46 {ρ : Ren} {α : T AV} {v4 v6 : Value} (h4 : ∀ v, getP (path 4) α = some v → V ρ v v4) (h6 : ∀ v, getP (path 6) α = some v → V ρ v v6) {tmps : Array Value} (t4 : tmps.getD 4 undef = v4) (t6 : tmps.getD 6 undef = v6) : TR ρ (f46 α) tmps := fun t v e => by
  unfold f46 at e
  rcases get_set' (getP (path 6) α) (path t) (path 6) (setP (getP (path 4) α) (path 4) .lf) with ⟨q1, q2⟩ | ⟨q1, q2⟩
  · rw [q1] at e
    have := congrArg toN q2
    rw [toN_path, toN_path] at this
    subst this
    rw [t6]; exact h6 v e
  · rw [q1] at e
    rcases get_set' (getP (path 4) α) (path t) (path 4) (.lf : T AV) with ⟨q3, q4⟩ | ⟨q3, q4⟩
    · rw [q3] at e
      have := congrArg toN q4
      rw [toN_path, toN_path] at this
      subst this
      rw [t4]; exact h4 v e
    · rw [q3, getP_lf] at e; cases e
theorem f46_4 (α : T AV) : getP (path 4) (f46 α) = getP (path 4) α := by
  unfold f46
  rw [get_set_ne _ _ _ _ (fun e => by have := congrArg toN e; rw [toN_path, toN_path] at this; omega), get_set]
theorem f46_6 (α : T AV) : getP (path 6) (f46 α) = getP (path 6) α := by unfold f46; rw [get_set]
end Go.Proofs.YtkjdclpneaepkaaGreat.Rq
end
section
set_option linter.unusedVariables false
open Go Go.Ev Go.Proofs Go.RowKit
namespace Go.Proofs.YtkjdclpneaepkaaGreat.Rq
def ins (v : Nat) (σ : List Nat) : List Nat := if v ∈ σ then σ else v :: σ
def AllOk (x0 : AV) : Prop := ∀ σ : List Nat, σ.Nodup → (∀ v ∈ σ, v < 5) → S x0 σ (chk σ) = true
/-- Between the two calls of a round. -/
structure Mid (Pr : Nat → Prop) (x0 : AV) (v4 v6 : Value) (σ : List Nat) (v : Nat) (w : World) : Prop where
  lt : ∀ g, Pr g → g < w.heap.size
  st : ∃ (α : T AV) (a4 : AV) (h1 : Hp) (n1 : Pa) (ρ1 : Ren) (r2 : AV) (h2 : Hp) (n2 : Pa) (l2 : AV) (k : KB),
    getP (path 4) α = some a4 ∧ V ρ1 a4 v4 ∧ (∀ u, getP (path 6) α = some u → V ρ1 u v6) ∧ HR ρ1 h1 n1 w ∧ (∀ g, Own ρ1 h1 g → ¬ Pr g) ∧
    cY 20 (.cn a4 (.cn (.i .i64 (.ofNat 1)) (.cn (ask tid v) .nl))) h1 n1 = .ok r2 h2 n2 ∧ r2 = .ag (.cn (.i .i64 (.ofNat 0)) l2) ∧ Cg.gcN [4, 6] (f46 α) h2 k = true ∧
    ∀ α' h' nx' ρ' w', k α' h' nx' = true → (∀ k', Cg.gcN [4, 6] (f46 α) h2 k' = k' α' h' nx') → HR ρ' h' nx' w' → (∀ u, getP (path 4) α' = some u → V ρ' u v4) → (∀ u, getP (path 6) α' = some u → V ρ' u v6) →
      (∀ u, getP (path 4) α = some u → V ρ' u v4) → (∀ u, getP (path 6) α = some u → V ρ' u v6) → (∀ g, Own ρ' h' g → ¬ Pr g) → (∀ g, Pr g → g < w'.heap.size) → St Pr x0 v4 v6 (ins v σ) w'
theorem KP.of {Pr : Nat → Prop} {ρ ρ' : Ren} {h h' : Hp} {w w' : World} (s : Stp ρ h w ρ' h' w') (l : ∀ g, Pr g → g < w.heap.size) (ho : ∀ g, Own ρ h g → ¬ Pr g) : KP Pr w w' :=
  ⟨s.os, s.tape, s.output, s.size, fun g q => s.keep g (l g q) fun o => ho g o q⟩
theorem err0 {ρ : Ren} {l : AV} {v : Value} (h : V ρ (.ag (.cn (.i .i64 (.ofNat 0)) l)) v) : ∃ rs : List Value, v = .agg (Value.int .i64 0 :: rs).toArray := by
  obtain ⟨vs, ⟨u, r, rfl, h1, h2⟩, rfl⟩ := h
  exact ⟨r, by rw [show u = .int .i64 0 from h1]⟩
theorem argsV {ρ : Ren} {a4 : AV} {v4 x : Value} {v : Nat} (h4 : V ρ a4 v4) (hx : V (fun _ => none) (ask tid v) x) : Vs ρ (.cn a4 (.cn (.i .i64 (.ofNat 1)) (.cn (ask tid v) .nl))) [v4, .int .i64 1, x] :=
  ⟨_, _, rfl, h4, _, _, rfl, rfl, _, _, rfl, V_mono (fun id p q => by cases q) hx, rfl⟩
/-- The first of a round's calls. -/
theorem call1 {Pr : Nat → Prop} {x0 : AV} {v4 v6 : Value} {σ : List Nat} {w : World} (E : AllOk x0) (s : St Pr x0 v4 v6 σ w) (hσ : σ.Nodup) (h5 : ∀ v ∈ σ, v < 5) {v : Nat} (hv : v < 5) {x : Value} (hx : V (fun _ => none) (ask tid v) x) :
    Calls Tryz.prog 20 #[v4, .int .i64 1, x] w fun r w' => ∃ rs : List Value, r = .returned (.agg (Value.int .i64 0 :: rs).toArray) ∧ Mid Pr x0 v4 v6 σ v w' ∧ KP Pr w w' := by
  obtain ⟨l, α, h, nx, ρ, q, H, s4, s6, ho⟩ := s
  have c := E σ hσ h5
  rw [q] at c
  have cf := five_ok (Cg.ifV_ok (Cg.ifV_ok (show Cg.ifV (tidB α h) (Cg.ifV (fin6 σ.length α h nx) (five fun v => Bool.rec (motive := fun _ => Bool) true (G v α h nx fun _ h2 n2 => Cg.subS h2 h n2 nx) (memN v σ)) false) false = true from c)).2).2 v hv
  have main : ∀ k : KB, G v α h nx k = true → (∀ α' h' nx' ρ' w', k α' h' nx' = true → (∀ k', G v α h nx k' = k' α' h' nx') → HR ρ' h' nx' w' → (∀ u, getP (path 4) α' = some u → V ρ' u v4) → (∀ u, getP (path 6) α' = some u → V ρ' u v6) →
      (∀ u, getP (path 4) α = some u → V ρ' u v4) → (∀ u, getP (path 6) α = some u → V ρ' u v6) → (∀ g, Own ρ' h' g → ¬ Pr g) → (∀ g, Pr g → g < w'.heap.size) → St Pr x0 v4 v6 (ins v σ) w') →
      Calls Tryz.prog 20 #[v4, .int .i64 1, x] w fun r w' => ∃ rs : List Value, r = .returned (.agg (Value.int .i64 0 :: rs).toArray) ∧ Mid Pr x0 v4 v6 σ v w' ∧ KP Pr w w' := fun k e hk => by
    obtain ⟨a4, r1, h1, n1, r2, h2, n2, l1, l2, e4, c1, d1, c2, d2, g, eg⟩ := G_eq e
    refine (callY H (argsV (s4 a4 e4) hx) c1).mono fun r w' ⟨ρ', u, k1, k2, k3, k4⟩ => ?_
    subst d1
    obtain ⟨rs, rfl⟩ := err0 k2
    refine ⟨rs, k1, ⟨fun g q => Nat.lt_of_lt_of_le (l g q) k4.size, α, a4, h1, n1, ρ', r2, h2, n2, l2, k, e4, V_mono k4.ext (s4 a4 e4), fun u e6 => V_mono k4.ext (s6 u e6), k3, fun g o q => ?_, c2, d2, g, fun α' h' nx' ρ' w' z1 z2 => hk α' h' nx' ρ' w' z1 fun k' => (eg k').trans (z2 k')⟩, KP.of k4 l ho⟩
    rcases k4.own g o with o | o
    · exact ho g o q
    · have := l g q; omega
  by_cases hm : v ∈ σ
  · rw [(memN_iff v σ).2 hm] at cf
    refine main _ cf fun α' h' nx' ρ' w' z1 z2 z3 z4 z5 z6 z7 z8 z9 => ?_
    obtain ⟨y1, y2⟩ := Cg.subS_ok z1 z3 H
    rw [show ins v σ = σ from if_pos hm]
    exact ⟨z9, α, h, nx, ρ', q, y1, z6, z7, fun g o => z8 g (y2 g o)⟩
  · have c' := E (v :: σ) (List.nodup_cons.2 ⟨hm, hσ⟩) fun u hu => by
      rcases List.mem_cons.1 hu with rfl | hu
      · exact hv
      · exact h5 u hu
    have c' : S x0 σ (fun α h nx => G v α h nx (chk (v :: σ))) = true := c'
    rw [q] at c'
    refine main _ c' fun α' h' nx' ρ' w' z1 z2 z3 z4 z5 z6 z7 z8 z9 => ?_
    rw [show ins v σ = v :: σ from if_neg hm]
    exact ⟨z9, α', h', nx', ρ', fun k' => (show S x0 (v :: σ) k' = G v α h nx k' from q _).trans (z2 k'), z3, z4, z5, z8⟩
/-- The second one: the world stands as the row with this request says. -/
theorem call2 {Pr : Nat → Prop} {x0 : AV} {v4 v6 : Value} {σ : List Nat} {w : World} {v : Nat} (s : Mid Pr x0 v4 v6 σ v w) {x : Value} (hx : V (fun _ => none) (ask tid v) x) :
    Calls Tryz.prog 20 #[v4, .int .i64 1, x] w fun r w' => ∃ rs : List Value, r = .returned (.agg (Value.int .i64 0 :: rs).toArray) ∧ St Pr x0 v4 v6 (ins v σ) w' ∧ KP Pr w w' := by
  obtain ⟨l, α, a4, h1, n1, ρ1, r2, h2, n2, l2, k, e4, s4, s6, H, ho, c2, d2, g, hk⟩ := s
  refine (callY H (argsV s4 hx) c2).mono fun r w' ⟨ρ', u, k1, k2, k3, k4⟩ => ?_
  subst d2
  obtain ⟨rs, rfl⟩ := err0 k2
  refine ⟨rs, k1, ?_, KP.of k4 l ho⟩
  have ho2 : ∀ g, Own ρ' h2 g → ¬ Pr g := fun g o q => by
    rcases k4.own g o with o | o
    · exact ho g o q
    · have := l g q; omega
  have l2 : ∀ g, Pr g → g < w'.heap.size := fun g q => Nat.lt_of_lt_of_le (l g q) k4.size
  have g' : Cg.gcN [4, 6] (f46 α) h2 (fun _ _ _ => true) = true := by
    rcases gcN_two [4, 6] (f46 α) h2 with z | ⟨a, b, c, z⟩
    · rw [z] at g; cases g
    · rw [z]
  obtain ⟨α', h', nx', N, -, e1, e2, e3⟩ := Cg.gcN_ok g'
  have t4 : ∀ u, getP (path 4) α = some u → V ρ' u v4 := fun u e => by rw [e4] at e; cases e; exact V_mono k4.ext s4
  have t6 : ∀ u, getP (path 6) α = some u → V ρ' u v6 := fun u e => V_mono k4.ext (s6 u e)
  obtain ⟨H', T', S'⟩ := e3 k3 (TR46 t4 t6 (tmps := #[undef, undef, undef, undef, v4, undef, v6]) rfl rfl)
  refine hk α' h' nx' _ w' ((e1 k).symm.trans g) e1 H' (fun u e => T' 4 u e) (fun u e => T' 6 u e) (fun u e => T' 4 u (e2 4 u (by simp) (by rw [f46_4]; exact e))) (fun u e => T' 6 u (e2 6 u (by simp) (by rw [f46_6]; exact e))) (fun g o q => ?_) l2
  rcases S'.own g o with o | o
  · exact ho2 g o q
  · have := l2 g q; omega
/-- Code in two pieces. -/
theorem ev_seq (nt : Nat) (A B : Code) (α : T AV) (h : Hp) (nx : Pa) : ev nt (.seq A B) α h nx = nxt nt B (ev nt A α h nx) := by
  obtain ⟨fa, ha, -⟩ := codeD_ok (c := cY) (Inv := fun _ _ _ => True) (sp := noSp) (nt := nt) (fun _ _ => trivial) mixed okCY A (allD_none _ _ _)
  obtain ⟨fb, hb, -⟩ := codeD_ok (c := cY) (Inv := fun _ _ _ => True) (sp := noSp) (nt := nt) (fun _ _ => trivial) mixed okCY B (allD_none _ _ _)
  have hs : codeD Tryz.prog nt noSp (.seq A B) = .mk fun c tm h nx => seqD fa fb c tm h nx := by
    show Cx.rec (motive := fun _ => Cx) (fun fa => Cx.rec (motive := fun _ => Cx) (fun fb => .mk fun c tm h nx => seqD fa fb c tm h nx) (codeD Tryz.prog nt noSp B)) (codeD Tryz.prog nt noSp A) = _
    rw [ha, hb]
  have e1 : ∀ α h nx, ev nt A α h nx = fa cY α h nx := fun α h nx => by unfold ev; rw [ha]
  have e2 : ∀ α h nx, ev nt B α h nx = fb cY α h nx := fun α h nx => by unfold ev; rw [hb]
  have e3 : ev nt (.seq A B) α h nx = seqD fa fb cY α h nx := by unfold ev; rw [hs]
  rw [e3, e1]
  unfold seqD nxt
  cases fa cY α h nx with
  | nx t h n => exact (e2 t h n).symm
  | _ => rfl
theorem isNx_nxt {nt : Nat} {k : Code} {r : Rc} (h : isNx (nxt nt k r) = true) : isNx r = true := by
  cases r with
  | nx t h n => rfl
  | _ => cases h
/-- The last piece, at a seam of the walk. -/
theorem last2 {fn : Func} {A B : Code} {K : Act → World → Prop} {w0 : World} {α : T AV} {h : Hp} {nx : Pa} {a : Act} {w : World} {nt : Nat} (hK : ∀ a w, B.wp Tryz.prog (bodyPost Tryz.prog fn fun x w' => x = .returned (.bool true) ∧ Keep NoF w0 w') a w → K a w) (c : Cfg w0 nt α h nx a w)
    (hr : okRes Tryz.prog fn.results.toList = true) (e : okT (fin (cRes Tryz.prog fn.results.toList) (ev nt (.seq A B) α h nx)) = true) : A.wp Tryz.prog (Exit.then K (bodyPost Tryz.prog fn fun x w' => x = .returned (.bool true) ∧ Keep NoF w0 w')) a w := by
  obtain ⟨k, hn, hd, ρ, H, hT, ho⟩ := c
  obtain ⟨e1, e2⟩ := evF_ok nt A
  rw [ev_seq, e1] at e
  refine wp_mono (e2 H hT hn trivial fun n q => by rw [q] at e; cases e) fun x a' w' q => ?_
  revert e q
  generalize evF nt A cY α h nx = r
  intro e q
  cases x with
  | normal =>
    obtain ⟨α', h', nx', ρ', q1, g⟩ := q
    subst q1
    exact hK _ _ (At.last ⟨α', h', nx', rfl, Cfg.good k hn hd ho g⟩ hr e)
  | ret =>
    obtain ⟨α', h', nx', ρ', q1, g⟩ := q
    subst q1
    exact fin_post (x := .ret) k hn hd ho hr (r := .rt α' h' nx') ⟨α', h', nx', ρ', rfl, g⟩ e
  | exit id => obtain ⟨α', h', nx', ρ', q1, g⟩ := q; subst q1; cases e
  | goto l => exact q.elim
  | panic ch => exact q.elim
  | outgrown => exact q.elim
/-- The law's end. -/
theorem end_any {K : Act → World → Prop} {w0 w : World} {a : Act} {x0 : AV} {v4 v6 : Value} {σ : List Nat} {Pr : Nat → Prop} (hK : ∀ a w, (sR Z6).wp Tryz.prog (bodyPost Tryz.prog fn6 fun x w' => x = .returned (.bool true) ∧ Keep NoF w0 w') a w → K a w)
    (E : AllOk x0) (s : St Pr x0 v4 v6 σ w) (hP : ∀ g, g < w0.heap.size → Pr g) (hσ : σ.Nodup) (h5 : ∀ v ∈ σ, v < 5) (k : Keep NoF w0 w) (hn : 122 ≤ a.tmps.size) (hd : a.defers = []) (t4 : a.tmps.getD 4 undef = v4) (t6 : a.tmps.getD 6 undef = v6) (t7 : a.tmps.getD 7 undef = .int .i64 (.ofNat σ.length)) :
    (sL Z6).wp Tryz.prog (Exit.then K (bodyPost Tryz.prog fn6 fun x w' => x = .returned (.bool true) ∧ Keep NoF w0 w')) a w := by
  obtain ⟨l, α, h, nx, ρ, q, H, s4, s6, ho⟩ := s
  have c := E σ hσ h5
  rw [q] at c
  have c := (Cg.ifV_ok (Cg.ifV_ok (show Cg.ifV (tidB α h) (Cg.ifV (fin6 σ.length α h nx) _ false) false = true from c)).2).1
  have hZ : Z6 = .seq (sL Z6) (sR Z6) := by kernel_rfl
  unfold fin6 at c
  rw [hZ] at c
  refine last2 hK ⟨k, hn, hd, ρ, H, TR2 (TR46 s4 s6 t4 t6) (show V ρ (.i .i64 (.ofNat σ.length)) (a.tmps.getD 7 undef) from t7), fun g o => Nat.le_of_not_lt fun q => ho g o (hP g q)⟩ (by kernel_rfl) c
end Go.Proofs.YtkjdclpneaepkaaGreat.Rq
end
section
set_option linter.unusedVariables false
open Go Go.Ev Go.Proofs Go.RowKit
namespace Go.Proofs.YtkjdclpneaepkaaGreat
/-- A slice of whole numbers that came in. -/
def IsRow (k : IntKind) (w : World) (a : Option Addr) (len cap : Nat) (zs : List Int) : Prop :=
  (a = none ∧ len = 0 ∧ cap = 0 ∧ zs = []) ∨
  ∃ x, a = some x ∧ len ≤ cap ∧ cap ≤ maxLen ∧ zs.length = cap ∧ (∀ i, i < zs.length → w.cell? (x.add i) = some (.int k (zs.getD i 0))) ∧ ∀ n ∈ zs, (Lit.int k n).wf = true
namespace Rq
/-- A slice of whole numbers that can be read. -/
def IsL (w : World) (v : Value) (l : List Int) : Prop := ∃ a c, v = .slice a l.length c ∧ (∀ x ∈ l, (Lit.int .i64 x).wf = true) ∧ ∀ i (hi : i < l.length), ∃ g off, a = some ⟨g, off, none⟩ ∧ w.cell? ⟨g, off + i, none⟩ = some (.int .i64 l[i])
/-- What stands for the argument. -/
theorem open_row {w : World} {a : Option Addr} {len cap : Nat} {zs : List Int} (h : IsRow .i64 w a len cap zs) : ∃ (l : List Int) (x0 : AV) (ρ0 : Ren), l.length = len ∧ (∀ w', HR ρ0 .lf (Pa.succ Pa.e) w') ∧ V ρ0 x0 (.slice a len cap) ∧ ∀ ρ' v, Ext ρ0 ρ' → V ρ' x0 v → IsL w v l := by
  rcases h with ⟨rfl, rfl, rfl, rfl⟩ | ⟨x, rfl, hl, hm, hz, hc, hw⟩
  · refine ⟨[], .ns, fun _ => none, rfl, fun w' => ⟨fun id p q => (by cases q), fun id b q => (by rw [getP_lf] at q; cases q), fun id id' b b' g t t' q => (by rw [getP_lf] at q; cases q)⟩, rfl, fun ρ' v _ k => ⟨none, 0, k, by simp, by simp⟩⟩
  · rcases Nat.eq_zero_or_pos len with h0 | h0
    · subst h0
      exact ⟨[], .se, fun _ => none, rfl, fun w' => ⟨fun id p q => (by cases q), fun id b q => (by rw [getP_lf] at q; cases q), fun id id' b b' g t t' q => (by rw [getP_lf] at q; cases q)⟩, ⟨x, cap, rfl⟩, fun ρ' v _ ⟨a, c, e⟩ => ⟨some a, c, e, by simp, by simp⟩⟩
    · have hpl := Bo.plain_addr (hc 0 (by omega))
      refine ⟨(List.range len).map fun i => zs.getD i 0, .sl Pa.e x.off len cap, Bo.ren x.block, by simp, fun w' => Bo.ren_HR _ w', ⟨x.block, 0, Bo.ren_e _, by rw [← hpl]⟩, fun ρ' v e ⟨b, t, e1, e2⟩ => ?_⟩
      rw [e _ _ (Bo.ren_e x.block)] at e1
      cases e1
      refine ⟨some ⟨x.block, x.off, none⟩, cap, by rw [e2]; simp, fun y hy => ?_, fun i hi => ⟨_, _, rfl, ?_⟩⟩
      · obtain ⟨i, hi, rfl⟩ := List.mem_map.1 hy
        have hi := List.mem_range.1 hi
        refine hw _ ?_
        rw [List.getD_eq_getElem?_getD, List.getElem?_eq_getElem (by omega), Option.getD_some]
        exact List.getElem_mem _
      · simp at hi
        rw [← Bo.addr_plain hpl, hc i (by omega)]
        simp
theorem IsL.keep {w w' : World} {v : Value} {l : List Int} (h : IsL w v l) (k : Keep NoF w w') : IsL w' v l := by
  obtain ⟨a, c, h1, h2, h3⟩ := h
  refine ⟨a, c, h1, h2, fun i hi => ?_⟩
  obtain ⟨g, off, e1, e2⟩ := h3 i hi
  exact ⟨g, off, e1, k.cell' e2 (fun f => f)⟩
/-- A number below five. -/
def sm (x : Int) : Nat := (x.tmod 5).natAbs
theorem sm_lt (x : Int) : sm x < 5 := by
  have h1 : x.tmod 5 < 5 := Int.tmod_lt_of_pos x (by omega)
  have h2 : -(5 : Int) < x.tmod 5 := by have := Int.tmod_lt_of_pos (-x) (b := (5 : Int)) (by omega); rw [Int.neg_tmod] at this; omega
  unfold sm; omega
theorem small5 (x : Int) (hx : (Lit.int .i64 x).wf = true) (w : World) : Calls Tryz.prog 26 #[.int .i64 x, .int .i64 5] w fun e w' => e = .returned (.int .i64 (sm x : Nat)) ∧ w' = w := by
  have hb := bounds_i64 hx
  have h1 : x.tmod 5 < 5 := Int.tmod_lt_of_pos x (by omega)
  have h2 : -(5 : Int) < x.tmod 5 := by have := Int.tmod_lt_of_pos (-x) (b := (5 : Int)) (by omega); rw [Int.neg_tmod] at this; omega
  obtain ⟨r, hr⟩ : ∃ r, sm x = r := ⟨_, rfl⟩
  rw [hr]
  unfold sm at hr
  obtain ⟨y, hy⟩ : ∃ y, x.tmod 5 = y := ⟨_, rfl⟩
  rw [hy] at h1 h2 hr
  by_cases hn : y < 0
  · have hw : IntKind.i64.wrap (-y) = (r : Int) := by rw [IntWalk.i64_in _ (by omega)]; omega
    clear hr h1 h2
    go_enter Tryz.func26, Tryz.ntmps26
    go_wp2_with fail
    go_ret
    exact ⟨rfl, rfl⟩
  · obtain rfl : y = (r : Int) := by omega
    clear hr h1 h2
    go_enter Tryz.func26, Tryz.ntmps26
    go_wp2_with fail
    go_ret
    exact ⟨rfl, rfl⟩
/-- A step of the law's own code, reckoned. -/
theorem stepG {nt : Nat} {k : Code} {α : T AV} {h : Hp} {nx : Pa} {ρ : Ren} {a : Act} {w : World} (H : HR ρ h nx w) (hT : TR ρ α a.tmps) (hn : nt ≤ a.tmps.size) (e : isNx (ev nt k α h nx) = true) :
    k.wp Tryz.prog (fun x a' w' => x = .normal ∧ ∃ α' h' nx' ρ', ev nt k α h nx = .nx α' h' nx' ∧ Go.Ev.Good ρ h a w ρ' α' h' nx' a' w') a w := by
  obtain ⟨e1, e2⟩ := evF_ok nt k
  have e3 : ev nt k α h nx = evF nt k cY α h nx := e1 α h nx
  rw [e3] at e ⊢
  refine wp_mono (e2 H hT hn trivial fun n q => by rw [q] at e; cases e) fun x a' w' q => ?_
  cases x with
  | normal => obtain ⟨α', h', nx', ρ', q1, g⟩ := q; exact ⟨rfl, α', h', nx', ρ', q1, g⟩
  | ret => obtain ⟨α', h', nx', ρ', q1, g⟩ := q; rw [q1] at e; cases e
  | exit id => obtain ⟨α', h', nx', ρ', q1, g⟩ := q; rw [q1] at e; cases e
  | goto l => exact q.elim
  | panic ch => exact q.elim
  | outgrown => exact q.elim
theorem mapR (f : Nat → Value) : ((List.range 122).map f) = (fun t : Nat → Value => [t 0, t 1, t 2, t 3, t 4, t 5, t 6, t 7, t 8, t 9, t 10, t 11, t 12, t 13, t 14, t 15, t 16, t 17, t 18, t 19, t 20, t 21, t 22, t 23, t 24, t 25, t 26, t 27, t 28, t 29, t 30, t 31, t 32, t 33, t 34, t 35, t 36, t 37, t 38, t 39, t 40, t 41, t 42, t 43, t 44, t 45, t 46, t 47, t 48, t 49, t 50, t 51, t 52, t 53, t 54, t 55, t 56, t 57, t 58, t 59, t 60, t 61, t 62, t 63, t 64, t 65, t 66, t 67, t 68, t 69, t 70, t 71, t 72, t 73, t 74, t 75, t 76, t 77, t 78, t 79, t 80, t 81, t 82, t 83, t 84, t 85, t 86, t 87, t 88, t 89, t 90, t 91, t 92, t 93, t 94, t 95, t 96, t 97, t 98, t 99, t 100, t 101, t 102, t 103, t 104, t 105, t 106, t 107, t 108, t 109, t 110, t 111, t 112, t 113, t 114, t 115, t 116, t 117, t 118, t 119, t 120, t 121]) f := rfl
theorem lit122 (a : Act) (h : a.tmps.size = 122) (hd : a.defers = []) : a = (fun t : Nat → Value => (⟨#[t 0, t 1, t 2, t 3, t 4, t 5, t 6, t 7, t 8, t 9, t 10, t 11, t 12, t 13, t 14, t 15, t 16, t 17, t 18, t 19, t 20, t 21, t 22, t 23, t 24, t 25, t 26, t 27, t 28, t 29, t 30, t 31, t 32, t 33, t 34, t 35, t 36, t 37, t 38, t 39, t 40, t 41, t 42, t 43, t 44, t 45, t 46, t 47, t 48, t 49, t 50, t 51, t 52, t 53, t 54, t 55, t 56, t 57, t 58, t 59, t 60, t 61, t 62, t 63, t 64, t 65, t 66, t 67, t 68, t 69, t 70, t 71, t 72, t 73, t 74, t 75, t 76, t 77, t 78, t 79, t 80, t 81, t 82, t 83, t 84, t 85, t 86, t 87, t 88, t 89, t 90, t 91, t 92, t 93, t 94, t 95, t 96, t 97, t 98, t 99, t 100, t 101, t 102, t 103, t 104, t 105, t 106, t 107, t 108, t 109, t 110, t 111, t 112, t 113, t 114, t 115, t 116, t 117, t 118, t 119, t 120, t 121], []⟩ : Act)) fun i => a.tmps.getD i undef := by
  obtain ⟨ts, ds⟩ := a
  have h : ts.size = 122 := h
  have hd : ds = [] := hd
  subst hd
  have e : ts.toList = (List.range 122).map fun i => ts.getD i undef := by
    refine List.ext_getElem (by simp [h]) fun i h1 h2 => ?_
    have : i < ts.size := by simpa using h1
    simp [Array.getD, this]
  have e2 : ts = ((List.range 122).map fun i => ts.getD i undef).toArray := by rw [← e]
  rw [mapR] at e2
  exact congrArg (fun x => (⟨x, []⟩ : Act)) e2
/-- The law's start: the world, a session, a transaction. -/
theorem start_any {A B D Z : Code} {K : Act → World → Prop} {w0 w : World} {a : Act} {x0 : AV} {ρ0 : Ren} {l : List Int} (hC : C6 = .seq A (.seq B (.seq D Z)))
    (hK : ∀ a w, (Code.seq B (.seq D Z)).wp Tryz.prog (bodyPost Tryz.prog fn6 fun x w' => x = .returned (.bool true) ∧ Keep NoF w0 w') a w → K a w)
    (k : Keep NoF w0 w) (hn : a.tmps.size = 122) (hd : a.defers = []) (H : HR ρ0 .lf (Pa.succ Pa.e) w) (h0 : V ρ0 x0 (a.tmps.getD 0 undef)) (hL : ∀ ρ' v, Ext ρ0 ρ' → V ρ' x0 v → IsL w0 v l) (slot : getP (path 0) (rA (r3 x0)) = some x0) (E : AllOk x0)
    (cont : ∀ (t : Nat → Value) (w' : World), Keep NoF w0 w' → IsL w0 (t 0) l → St (fun g => g < w0.heap.size) x0 (t 4) (t 6) [] w' → Z.wp Tryz.prog (bodyPost Tryz.prog fn6 fun x w' => x = .returned (.bool true) ∧ Keep NoF w0 w') ⟨#[t 0, t 1, t 2, t 3, t 4, t 5, t 6, t 7, t 8, t 9, t 10, t 11, t 12, t 13, t 14, t 15, t 16, t 17, t 18, t 19, t 20, t 21, t 22, t 23, t 24, t 25, t 26, t 27, t 28, t 29, t 30, t 31, t 32, t 33, t 34, t 35, t 36, t 37, t 38, t 39, t 40, t 41, t 42, t 43, t 44, t 45, t 46, t 47, t 48, t 49, t 50, t 51, t 52, t 53, t 54, t 55, t 56, t 57, t 58, t 59, t 60, t 61, t 62, t 63, t 64, t 65, t 66, t 67, t 68, t 69, t 70, t 71, t 72, t 73, t 74, t 75, t 76, t 77, t 78, t 79, t 80, t 81, t 82, t 83, t 84, t 85, t 86, t 87, t 88, t 89, t 90, t 91, t 92, t 93, t 94, t 95, t 96, t 97, t 98, t 99, t 100, t 101, t 102, t 103, t 104, t 105, t 106, t 107, t 108, t 109, t 110, t 111, t 112, t 113, t 114, t 115, t 116, t 117, t 118, t 119, t 120, t 121], []⟩ w') :
    A.wp Tryz.prog (Exit.then K (bodyPost Tryz.prog fn6 fun x w' => x = .returned (.bool true) ∧ Keep NoF w0 w')) a w := by
  have hS := E [] List.nodup_nil (by simp)
  have hS : Cg.ifV (isNx (r3 x0)) (Cg.gcN [4, 6] (rA (r3 x0)) (rH (r3 x0)) (chk [])) false = true := hS
  obtain ⟨i3, hG⟩ := Cg.ifV_ok hS
  have hA : sL C6 = A := by rw [hC]; rfl
  have hB : sL (sR C6) = B := by rw [hC]; rfl
  have hD : sL (sR (sR C6)) = D := by rw [hC]; rfl
  unfold r3 at i3
  have i2 := isNx_nxt i3
  unfold r2 at i2
  have i1 := isNx_nxt i2
  have R1 : r1 x0 = ev 122 A (setP (some x0) (path 0) .lf) .lf (Pa.succ Pa.e) := by unfold r1 r0; rw [hA]; rfl
  have R2 : r2 x0 = nxt 122 B (r1 x0) := by unfold r2; rw [hB]
  have R3 : r3 x0 = nxt 122 D (r2 x0) := by unfold r3; rw [hD]
  have j3 : isNx (r3 x0) = true := by unfold r3; exact i3
  have j2 : isNx (r2 x0) = true := by unfold r2; exact i2
  rw [R1] at i1
  refine wp_mono (stepG (nt := 122) H (TR1 h0) (Nat.le_of_eq hn.symm) i1) fun x a1 w1 ⟨q1, α1, h1, n1, ρ1, q2, g1⟩ => ?_
  subst q1
  refine hK _ _ (wp_seq ?_)
  rw [R2, R1, q2] at j2
  refine wp_mono (stepG (nt := 122) (k := B) g1.hr g1.tr (by rw [g1.sz, hn]; exact Nat.le_refl _) j2) fun x a2 w2 ⟨q3, α2, h2, n2, ρ2, q4, g2⟩ => ?_
  subst q3
  refine (wp_seq ?_ : (Code.seq D Z).wp _ _ _ _)
  have R2' : r2 x0 = .nx α2 h2 n2 := by rw [R2, R1, q2]; exact q4
  rw [R3, R2'] at j3
  refine wp_mono (stepG (nt := 122) (k := D) g2.hr g2.tr (by rw [g2.sz, g1.sz, hn]; exact Nat.le_refl _) j3) fun x a3 w3 ⟨q5, α3, h3, n3, ρ3, q6, g3⟩ => ?_
  subst q5
  have R3' : r3 x0 = .nx α3 h3 n3 := by rw [R3, R2']; exact q6
  have g := (g1.trans g2).trans g3
  have ho : ∀ g, Own ρ0 (.lf : Hp) g → w0.heap.size ≤ g := fun g ⟨id, b, t, q, _⟩ => by rw [getP_lf] at q; cases q
  obtain ⟨c1, -, c3, ρ', c4, c5, c6⟩ := Cfg.good (nt := 122) k (Nat.le_of_eq hn.symm) hd ho g
  rw [R3'] at slot hG
  have hG : Cg.gcN [4, 6] α3 h3 (chk []) = true := hG
  have v0 := hL ρ3 _ g.st.ext (g.tr 0 x0 slot)
  have hlit := lit122 a3 (g.sz.trans hn) c3
  show Z.wp _ _ a3 w3
  rw [hlit]
  refine cont (fun i => a3.tmps.getD i undef) w3 c1 v0 ⟨fun g q => Nat.lt_of_lt_of_le q c1.size, ?_⟩
  have g' : Cg.gcN [4, 6] α3 h3 (fun _ _ _ => true) = true := by
    rcases gcN_two [4, 6] α3 h3 with z | ⟨a, b, c, z⟩
    · rw [z] at hG; cases hG
    · rw [z]
  obtain ⟨α', h', nx', N, -, e1, e2, e3⟩ := Cg.gcN_ok g'
  obtain ⟨H', T', S'⟩ := e3 g.hr g.tr
  refine ⟨α', h', nx', _, fun k' => ?_, H', fun u e => T' 4 u e, fun u e => T' 6 u e, fun g o q => ?_⟩
  · have : S x0 [] k' = Cg.ifV (isNx (r3 x0)) (Cg.gcN [4, 6] (rA (r3 x0)) (rH (r3 x0)) k') false := rfl
    rw [this, R3']
    exact e1 k'
  · rcases S'.own g o with o | o
    · rcases g3.st.own g o with o | o
      · rcases g2.st.own g o with o | o
        · rcases g1.st.own g o with o | o
          · have := ho g o; omega
          · have := k.size; omega
        · have := k.size; have := g1.st.size; omega
      · have := k.size; have := g1.st.size; have := g2.st.size; omega
    · have := c1.size; omega
end Rq
end Go.Proofs.YtkjdclpneaepkaaGreat
end
section
set_option linter.unusedVariables false
open Go Go.Ev Go.Proofs Go.RowKit
namespace Go.Proofs.YtkjdclpneaepkaaGreat.Rq
def zero7 : Array Value := #[.int .i64 0, .int .i64 0, .int .i64 0, .int .i64 0, .string ⟨#[]⟩, .string ⟨#[]⟩, .slice none 0 0]
theorem alloc_run (ev : Operand → Value) (o : Oper) (ho : o.op = .alloc 38) (W : World) : (execOp ev o).run Tryz.prog W = .ok (.value (.pointer (some ⟨W.heap.size, 0, none⟩))) (W.alloc (.cells zero7 38)) := by
  have hv : (Tryz.prog.info? 38).bind (·.zero) = some (.agg zero7) := by kernel_rfl
  have hc : (Value.agg zero7).cells = zero7 := by kernel_rfl
  simp [execOp, ho, Instr.alloc, info_some hv, newVar, newRow, hc]
theorem step_alloc7 {ops : Array Oper} {o : Oper} {a : Act} {K : Act → World → Prop} {Q : Exit → Act → World → Prop} {E : Prop} {w : World} (hgd : o.guard = none) (ho : o.op = .alloc 38)
    (h : ∀ w' b, w'.heap[b]? = some (.cells zero7 38 (0, 0)) → Keep NoF w w' → w.heap.size ≤ b → K (a.put o.dst (.pointer (some ⟨b, 0, none⟩))) w') :
    if Region.wanted o (yielded ops a.tmps) = true then Oper.wp Tryz.prog o a w K Q else E := by
  have hw : Region.wanted o (yielded ops a.tmps) = true := by simp [Region.wanted, hgd]
  rw [if_pos hw]
  unfold Oper.wp
  rw [alloc_run a.eval o ho w]
  exact h _ _ (by show (w.heap.push _)[w.heap.size]? = _; simp) ((Keep.refl NoF w).alloc _) (Nat.le_refl _)
theorem store_run {W : World} {b : Nat} {c : Array Value} {ty : TypeId} (hb : W.heap[b]? = some (.cells c ty (0, 0))) {ev : Operand → Value} {o : Oper} {x y : Operand} {vs : List Value} (ho : o.op = .store 38 x y) (hx : ev x = .pointer (some ⟨b, 0, none⟩)) (hy : ev y = .agg vs.toArray) (hl : vs.length = 7) (hs : c.size = 7) (h1 : ∀ v ∈ vs, v.oneCell' = true) :
    (execOp ev o).run Tryz.prog W = .ok .skip (W.setCells b 0 vs) := by
  have h2 := stores (P := Tryz.prog) hb (vs := vs) (off := 0) (by omega) (by simp) h1
  have h3 : (sizeOf 38).run Tryz.prog W = .ok 7 W := by kernel_rfl
  simp [execOp, ho, Instr.storeAt, hx, hy, Instr.sureAddr, storeVar, h3, Value.cells, hl, h2]
theorem step_store7 {ops : Array Oper} {o : Oper} {a : Act} {K : Act → World → Prop} {Q : Exit → Act → World → Prop} {E : Prop} {w w0 : World} {x y : Operand} (hgd : o.guard = none) (ho : o.op = .store 38 x y) {b : Nat} (hb : w.heap[b]? = some (.cells zero7 38 (0, 0)))
    (hx : a.eval x = .pointer (some ⟨b, 0, none⟩)) {v0 v1 v2 v3 v4 v5 v6 : Value} (hy : a.eval y = .agg #[v0, v1, v2, v3, v4, v5, v6]) (h1 : ∀ v ∈ [v0, v1, v2, v3, v4, v5, v6], v.oneCell' = true) (hk : Keep NoF w0 w) (hlt : w0.heap.size ≤ b)
    (h : ∀ w', w'.heap[b]? = some (.cells #[v0, v1, v2, v3, v4, v5, v6] 38 (0, 0)) → Keep NoF w0 w' → K (a.put o.dst undef) w') :
    if Region.wanted o (yielded ops a.tmps) = true then Oper.wp Tryz.prog o a w K Q else E := by
  have hw : Region.wanted o (yielded ops a.tmps) = true := by simp [Region.wanted, hgd]
  rw [if_pos hw]
  unfold Oper.wp
  rw [store_run hb (vs := [v0, v1, v2, v3, v4, v5, v6]) ho hx hy rfl rfl h1]
  obtain ⟨q1, q2, q3, q4, q5, q6⟩ := setCells_heap [v0, v1, v2, v3, v4, v5, v6] w b 0 zero7 38 (0, 0) hb
  exact h _ q1 ⟨q4.trans hk.os, q5.trans hk.tape, q6.trans hk.output, by rw [q3]; exact hk.size, fun i hi hn => (q2 i (by omega)).trans (hk.block i hi hn)⟩
theorem cat_b : ∀ r, r < 5 → (⟨#[98]⟩ ++ bsOf [48 + r] : ByteArray) = bsOf [98, 48 + r]
  | 0, _ => by decide
  | 1, _ => by decide
  | 2, _ => by decide
  | 3, _ => by decide
  | 4, _ => by decide
/-- The request as the walk spells it. -/
theorem ask_V {r : Nat} (h : r < 5) : V (fun _ => none) (ask tid r) (.agg #[.int .i64 4, .int .i64 (10 + (r : Int)), .int .i64 0, .int .i64 4294967297, .string ⟨#[113]⟩, .string (⟨#[98]⟩ ++ bsOf [48 + r]), .slice none 0 0]) := by
  refine ⟨[.int .i64 4, .int .i64 (10 + (r : Int)), .int .i64 0, .int .i64 4294967297, .string ⟨#[113]⟩, .string (⟨#[98]⟩ ++ bsOf [48 + r]), .slice none 0 0], ?_, rfl⟩
  refine ⟨_, _, rfl, rfl, _, _, rfl, ?_, _, _, rfl, rfl, _, _, rfl, rfl, _, _, rfl, rfl, _, _, rfl, ?_, _, _, rfl, rfl, rfl⟩
  · show Value.int .i64 (10 + (r : Int)) = .int .i64 (Int.ofNat (Nat.add 10 r))
    congr 1
  · show Value.string _ = .string (bsOf [98, Nat.add 48 r])
    rw [cat_b r h]; rfl
/-- What a request leaves of what was there. -/
theorem kp_keep {w wc w3 : World} {g9 : Nat} (k : Keep NoF w wc) (h : KP (fun g => g < w.heap.size ∨ g = g9) wc w3) : Keep NoF w w3 :=
  ⟨h.os.trans k.os, h.tape.trans k.tape, h.output.trans k.output, Nat.le_trans k.size h.size, fun i hi hn => (h.keep i (.inl hi)).trans (k.block i hi hn)⟩
theorem field0 (v : Value) (rs : List Value) (w : World) : Sem.run Tryz.prog (Instr.field 34 (Value.agg (v :: rs).toArray) 0) w = .ok v w := by kernel_rfl
theorem lenN : ∀ (n : Nat) (σ : List Nat), σ.Nodup → (∀ v ∈ σ, v < n) → σ.length ≤ n
  | 0, σ, _, h => by
    cases σ with
    | nil => exact Nat.le_refl _
    | cons a l => exact absurd (h a (List.mem_cons_self ..)) (by omega)
  | n + 1, σ, d, h => by
    have := lenN n (σ.erase n) (d.erase n) fun v q => by
      have q' := (List.Nodup.mem_erase_iff d).1 q
      have := h v q'.2
      have := q'.1
      omega
    have k := List.length_erase (a := n) (l := σ)
    split at k <;> omega
theorem len5 (σ : List Nat) (n : σ.Nodup) (h : ∀ v ∈ σ, v < 5) : σ.length ≤ 5 := lenN 5 σ n h
theorem end_any2 {A B : Code} {K : Act → World → Prop} {w0 w : World} {a : Act} {x0 : AV} {v4 v6 : Value} {σ : List Nat} {Pr : Nat → Prop} (hZ : Z6 = .seq A B) (hK : ∀ a w, B.wp Tryz.prog (bodyPost Tryz.prog fn6 fun x w' => x = .returned (.bool true) ∧ Keep NoF w0 w') a w → K a w)
    (E : AllOk x0) (s : St Pr x0 v4 v6 σ w) (hP : ∀ g, g < w0.heap.size → Pr g) (hσ : σ.Nodup) (h5 : ∀ v ∈ σ, v < 5) (k : Keep NoF w0 w) (hn : a.tmps.size = 122) (hd : a.defers = []) (t4 : a.tmps.getD 4 undef = v4) (t6 : a.tmps.getD 6 undef = v6) (t7 : a.tmps.getD 7 undef = .int .i64 (σ.length : Nat)) :
    A.wp Tryz.prog (Exit.then K (bodyPost Tryz.prog fn6 fun x w' => x = .returned (.bool true) ∧ Keep NoF w0 w')) a w := by
  have hA : sL Z6 = A := by rw [hZ]; rfl
  have hB : sR Z6 = B := by rw [hZ]; rfl
  subst hA hB
  exact end_any hK E s hP hσ h5 k (Nat.le_of_eq hn.symm) hd t4 t6 t7
/-- Is the request r new among the first k? -/
def fr (l : List Int) (r k : Nat) : Bool := (List.range k).all fun j => Bool.not (sm (l.getD j 0) == r)
theorem fr_succ (l : List Int) (r k : Nat) : fr l r (k + 1) = (fr l r k && Bool.not (sm (l.getD k 0) == r)) := by
  unfold fr; rw [List.range_succ, List.all_append]; simp
theorem fr_iff {l : List Int} {r i : Nat} {σ : List Nat} (h : ∀ v, v ∈ σ ↔ ∃ j, j < i ∧ sm (l.getD j 0) = v) : fr l r i = true ↔ r ∉ σ := by
  unfold fr
  rw [List.all_eq_true, h]
  constructor
  · rintro q ⟨j, hj, e⟩
    have := q j (List.mem_range.2 hj)
    rw [e] at this; simp at this
  · intro q j hj
    have : sm (l.getD j 0) ≠ r := fun e => q ⟨j, List.mem_range.1 hj, e⟩
    simpa using this
end Go.Proofs.YtkjdclpneaepkaaGreat.Rq
end
