/- TopQueues: where a world stands behind some rounds; a round more. -/
import Derived.Test.YtkjdclpneaepkaaGreatEv95
set_option linter.unusedVariables false
open Go Go.Ev Go.Proofs Go.RowKit
namespace Go.Proofs.YtkjdclpneaepkaaGreat.Qu
theorem rvB_ok {r : Rv} {k : AV → Hp → Pa → Bool} (h : rvB r k = true) : ∃ av h' nx', r = .ok av h' nx' ∧ k av h' nx' = true := by
  cases r with
  | bad n => cases h
  | ok av h' nx' => exact ⟨av, h', nx', rfl, h⟩
theorem ifV_ok {b x : Bool} (h : ifV b x = true) : b = true ∧ x = true := by
  cases b with
  | false => cases h
  | true => exact ⟨rfl, h⟩
theorem isB_two (v : AV) (r : Bool) : (∀ x, isB v r x = false) ∨ (v = .b r ∧ ∀ x, isB v r x = x) := by
  cases v with
  | b y => cases y <;> cases r <;> first | exact .inr ⟨rfl, fun _ => rfl⟩ | exact .inl fun _ => rfl
  | _ => exact .inl fun _ => rfl
theorem G_two (i : Nat) (r : Bool) (a : AV) (ids : List Pa) (h : Hp) (nx : Pa) : (∀ k, G i r a ids h nx k = false) ∨ ∃ h' nx', cQ 24 (fArgs a ids r nx) (setP (some (txt i)) nx.succ h) nx.succ.succ = .ok (.b r) h' nx' ∧ ∀ k, G i r a ids h nx k = k a (ids2 r ids nx) h' nx' := by
  unfold G
  cases e : cQ 24 (fArgs a ids r nx) (setP (some (txt i)) nx.succ h) nx.succ.succ with
  | bad n => exact .inl fun k => rfl
  | ok v h' nx' =>
    rcases isB_two v r with q | ⟨rfl, q⟩
    · exact .inl fun k => q _
    · exact .inr ⟨h', nx', rfl, fun k => q _⟩
theorem S_cons (r : Bool) (σ : List Bool) (k : KS) : S (r :: σ) k = S σ fun a ids h nx => G (lenL σ) r a ids h nx k := rfl
theorem S_two : ∀ σ, (∀ k, S σ k = false) ∨ ∃ a ids h nx, ∀ k, S σ k = k a ids h nx
  | [] => by
    have e : ∀ k, S [] k = S0 k := fun k => rfl
    unfold S0 at e
    cases q : cQ 15 (.cn (.i .i64 (.ofNat 1)) .nl) .lf Pa.e with
    | bad n => exact .inl fun k => by rw [e, q]; rfl
    | ok a h nx => exact .inr ⟨a, [], h, nx, fun k => by rw [e, q]; rfl⟩
  | r :: σ => by
    rcases S_two σ with q | ⟨a, ids, h, nx, q⟩
    · exact .inl fun k => (S_cons r σ k).trans (q _)
    · rcases G_two (lenL σ) r a ids h nx with q2 | ⟨h', nx', -, q2⟩
      · exact .inl fun k => (S_cons r σ k).trans ((q _).trans (q2 k))
      · exact .inr ⟨_, _, _, _, fun k => (S_cons r σ k).trans ((q _).trans (q2 k))⟩
theorem S_state {σ : List Bool} {k : KS} (e : S σ k = true) : ∃ a ids h nx, (∀ k, S σ k = k a ids h nx) ∧ k a ids h nx = true := by
  rcases S_two σ with q | ⟨a, ids, h, nx, q⟩
  · rw [q] at e; cases e
  · exact ⟨a, ids, h, nx, q, (q k).symm.trans e⟩
/-- Rows of rounds that may come: the first six have room. -/
def Rch : List Bool → Prop
  | [] => True
  | r :: σ => Rch σ ∧ σ.length < 10 ∧ (r = false → 6 ≤ σ.length)
theorem tree_succ (d : Nat) (σ : List Bool) (a : AV) (ids : List Pa) (h : Hp) (nx : Pa) : tree (d + 1) σ a ids h nx = ifV (chk σ a ids h nx) (ifV (G (lenL σ) true a ids h nx (tree d (true :: σ))) (Bool.rec (motive := fun _ => Bool) true (G (lenL σ) false a ids h nx (tree d (false :: σ))) (Nat.ble 6 (lenL σ)))) := by
  kernel_rfl
theorem tree_chk {σ : List Bool} {d : Nat} (h : S σ (tree d σ) = true) : S σ (chk σ) = true := by
  obtain ⟨a, ids, hp, nx, q, e⟩ := S_state h
  rw [q]
  cases d with
  | zero => exact e
  | succ d => rw [tree_succ] at e; exact (ifV_ok e).1
theorem tree_step {σ : List Bool} {d : Nat} (h : S σ (tree (d + 1) σ) = true) {r : Bool} (hr : r = false → 6 ≤ σ.length) : S (r :: σ) (tree d (r :: σ)) = true := by
  obtain ⟨a, ids, hp, nx, q, e⟩ := S_state h
  rw [S_cons, q]
  rw [tree_succ] at e
  obtain ⟨-, e⟩ := ifV_ok e
  obtain ⟨e1, e2⟩ := ifV_ok e
  cases r with
  | true => exact e1
  | false =>
    rw [lenL_eq, Nat.ble_eq_true_of_le (hr rfl)] at e2
    rw [lenL_eq]; exact e2
theorem ext_ok {d : Nat} {σ : List Bool} (h : S σ (tree d σ) = true) : ∀ τ : List Bool, τ.length ≤ d → Rch (τ ++ σ) → S (τ ++ σ) (tree (d - τ.length) (τ ++ σ)) = true
  | [], _, _ => h
  | r :: τ, hl, hr => by
    simp only [List.length_cons] at hl
    have ih := ext_ok h τ (by omega) hr.1
    rw [show d - τ.length = (d - (r :: τ).length) + 1 by simp only [List.length_cons]; omega] at ih
    exact tree_step ih hr.2.2
def t6 : List Bool := [true, true, true, true, true, true]
theorem rch_low : ∀ σ : List Bool, Rch σ → σ.length ≤ 6 → σ = List.replicate σ.length true
  | [], _, _ => rfl
  | r :: σ, h, hl => by
    simp only [List.length_cons] at hl
    have e := rch_low σ h.1 (by omega)
    cases r with
    | false => have := h.2.2 rfl; omega
    | true => rw [List.length_cons, List.replicate_succ, ← e]
theorem rch_high : ∀ σ : List Bool, Rch σ → 6 ≤ σ.length → ∃ τ, σ = τ ++ t6
  | [], _, h => by simp at h
  | r :: σ, h, hl => by
    by_cases q : 6 ≤ σ.length
    · obtain ⟨τ, rfl⟩ := rch_high σ h.1 q
      exact ⟨r :: τ, rfl⟩
    · simp only [List.length_cons] at hl
      have e := rch_low (r :: σ) h (by simp only [List.length_cons]; omega)
      refine ⟨[], ?_⟩
      rw [e, List.length_cons, show σ.length + 1 = 6 by omega]; rfl
theorem rch_len : ∀ σ : List Bool, Rch σ → σ.length ≤ 10
  | [], _ => by simp
  | r :: σ, h => by have := h.2.1; simp only [List.length_cons]; omega
/-- All states that can come. -/
theorem every_of (hA : S [] (tree 6 []) = true) (hB : S (true :: t6) (tree 3 (true :: t6)) = true) (hC : S (false :: t6) (tree 3 (false :: t6)) = true) (σ : List Bool) (h : Rch σ) : S σ (chk σ) = true := by
  by_cases h6 : σ.length ≤ 6
  · have := ext_ok hA σ h6 (by rw [List.append_nil]; exact h)
    rw [List.append_nil] at this
    exact tree_chk this
  · obtain ⟨τ, rfl⟩ := rch_high σ h (by omega)
    have hl := rch_len _ h
    rw [List.length_append, show t6.length = 6 from rfl] at hl h6
    rcases List.eq_nil_or_concat τ with rfl | ⟨τ', b, rfl⟩
    · simp at h6
    · rw [List.concat_eq_append] at h hl h6 ⊢
      rw [List.append_assoc] at h ⊢
      simp only [List.length_append, List.length_cons, List.length_nil] at hl
      cases b with
      | true => exact tree_chk (ext_ok hB τ' (by omega) h)
      | false => exact tree_chk (ext_ok hC τ' (by omega) h)
/-- The states are reckoned. -/
def AllOk : Prop := ∀ σ, Rch σ → S σ (chk σ) = true

/-! ### worlds -/
theorem HR.keepL {ρ : Ren} {h : Hp} {nx : Pa} {w w' : World} (H : HR ρ h nx w) (hw : ∀ g, Live ρ h g → w'.heap[g]? = w.heap[g]?) : HR ρ h nx w' :=
  ⟨H.dom, fun id b q => (by obtain ⟨g, t, q1, q2⟩ := H.blk id b q; exact ⟨g, t, q1, BR_mono (Ext.refl ρ) (hw g ⟨id, b, t, q, q1⟩) q2⟩), H.inj⟩
theorem HR.sym {ρ : Ren} {h : Hp} {nx : Pa} {w : World} (H : HR ρ h nx w) (p : Nat × Nat) : HR (upd ρ nx p) h nx.succ w :=
  ⟨fun id q e => by
    rw [toN_succ]
    by_cases hi : id = nx
    · rw [hi]; omega
    · rw [upd_ne _ _ hi] at e; have := H.dom id q e; omega, fun id b q => by
    obtain ⟨g, t, q1, q2⟩ := H.blk id b q
    exact ⟨g, t, H.ext p _ _ q1, BR_mono (H.ext p) rfl q2⟩, fun id id' b b' g t t' q q' e e' => by
    have n1 : id ≠ nx := fun k => by subst k; rw [H.free] at q; cases q
    have n2 : id' ≠ nx := fun k => by subst k; rw [H.free] at q'; cases q'
    rw [upd_ne _ _ n1] at e
    rw [upd_ne _ _ n2] at e'
    exact H.inj id id' b b' g t t' q q' e e'⟩
theorem live_sym {ρ : Ren} {h : Hp} {nx : Pa} {w : World} (H : HR ρ h nx w) {p : Nat × Nat} {g : Nat} (l : Live (upd ρ nx p) h g) : Live ρ h g := by
  obtain ⟨id, b, t, q, e⟩ := l
  have n1 : id ≠ nx := fun k => by subst k; rw [H.free] at q; cases q
  rw [upd_ne _ _ n1] at e
  exact ⟨id, b, t, q, e⟩
theorem live_lt {ρ : Ren} {h : Hp} {nx : Pa} {w : World} (H : HR ρ h nx w) {g : Nat} (l : Live ρ h g) : g < w.heap.size := by
  obtain ⟨id, b, t, q, e⟩ := l
  obtain ⟨g', t', q1, q2⟩ := H.blk id b q
  rw [e] at q1; cases q1
  exact q2.lt
theorem own_live {ρ : Ren} {h : Hp} {g : Nat} (o : Own ρ h g) : Live ρ h g := by
  obtain ⟨id, b, t, q, -, e⟩ := o
  exact ⟨id, b, t, q, e⟩
/-- Where a world stands; Pr: blocks that are not its own. -/
structure St (Pr : Nat → Prop) (v4 : Value) (σ : List Bool) (ts : List Nat) (w : World) : Prop where
  lt : ∀ g, Pr g → g < w.heap.size
  st : ∃ a ids h nx ρ, (∀ k, S σ k = k a ids h nx) ∧ HR ρ h nx w ∧ V ρ a v4 ∧ NmR ρ ids ts ∧ ∀ g, Live ρ h g → ¬ Pr g
/-- Nothing but what is not protected has changed. -/
abbrev KP (Pr : Nat → Prop) (w w' : World) : Prop := Keep (fun g => ¬ Pr g) w w'
theorem St.grow {Pr : Nat → Prop} {v4 : Value} {σ : List Bool} {ts : List Nat} {w w' : World} (s : St Pr v4 σ ts w) (k : Keep NoF w w') : St (fun g => Pr g ∨ (w.heap.size ≤ g ∧ g < w'.heap.size)) v4 σ ts w' := by
  obtain ⟨l, a, ids, h, nx, ρ, q, H, hv, hn, ho⟩ := s
  refine ⟨fun g p => p.elim (fun p => Nat.lt_of_lt_of_le (l g p) k.size) (fun p => p.2), a, ids, h, nx, ρ, q, HR.keepN H k, hv, hn, fun g o p => ?_⟩
  rcases p with p | p
  · exact ho g o p
  · have := live_lt H o; omega
theorem St.mono {Pr Pr' : Nat → Prop} {v4 : Value} {σ : List Bool} {ts : List Nat} {w : World} (s : St Pr v4 σ ts w) (h : ∀ g, Pr' g → Pr g) : St Pr' v4 σ ts w := by
  obtain ⟨l, a, ids, hp, nx, ρ, q, H, hv, hn, ho⟩ := s
  exact ⟨fun g p => l g (h g p), a, ids, hp, nx, ρ, q, H, hv, hn, fun g o p => ho g o (h g p)⟩
theorem St.other {Pr : Nat → Prop} {v4 : Value} {σ : List Bool} {ts : List Nat} {w w' : World} (s : St Pr v4 σ ts w) (k : Keep Pr w w') : St Pr v4 σ ts w' := by
  obtain ⟨l, a, ids, h, nx, ρ, q, H, hv, hn, ho⟩ := s
  exact ⟨fun g p => Nat.lt_of_lt_of_le (l g p) k.size, a, ids, h, nx, ρ, q, HR.keepL H fun g o => k.block g (live_lt H o) (ho g o), hv, hn, ho⟩
def add2 (r : Bool) (ts : List Nat) (t : Nat) : List Nat := if r then ts ++ [t] else ts
theorem NmR_add {ρ : Ren} {id : Pa} {b t : Nat} (e : ρ id = some (b, t)) : ∀ ids ts, NmR ρ ids ts → NmR ρ (ids ++ [id]) (ts ++ [t])
  | [], ts, h => by rw [show ts = [] from h]; exact ⟨b, t, [], e, rfl, rfl⟩
  | i :: ids, ts, ⟨b', t', r, q1, q2, q3⟩ => by rw [q2]; exact ⟨b', t', r ++ [t], q1, rfl, NmR_add e ids r q3⟩
theorem BR_txt {ρ : Ren} {w : World} {g i : Nat} {T : TypeId} {fz : Nat × Nat} (h : w.heap[g]? = some (.cells #[.string (bsOf [48 + i])] T fz)) : BR ρ (txt i) g 1 w := by
  refine ⟨_, T, fz, h, rfl, Nat.le_refl _, fun j v e => ?_, fun q => (by cases q), fun q => (by cases q)⟩
  rcases get_set' (some (AV.s [Nat.add 48 i])) (path j) (path 0) .lf with ⟨q1, q2⟩ | ⟨q1, q2⟩
  · rw [q1] at e
    cases e
    have := path_inj q2
    subst this
    exact ⟨by omega, _, rfl, rfl⟩
  · rw [q1, getP_lf] at e; cases e
/-- A round. -/
theorem fills_q {Pr : Nat → Prop} {v4 : Value} {σ : List Bool} {ts : List Nat} {w0 w : World} (E : AllOk) (s : St Pr v4 σ ts w0) (k0 : Keep NoF w0 w) {gb i : Nat} {T : TypeId} {fz : Nat × Nat} (hi : σ.length = i) (hb0 : w0.heap.size ≤ gb) (hb : w.heap[gb]? = some (.cells #[.string (bsOf [48 + i])] T fz)) {t : Nat} {r : Bool} (hr : roomB ts t = r) (hR : Rch (r :: σ)) :
    Calls Tryz.prog 24 #[v4, .int .i64 1, .string (qn t), .slice (some ⟨gb, 0, none⟩) 1 1] w fun e w' => e = .returned (.bool r) ∧ St Pr v4 (r :: σ) (add2 r ts t) w' ∧ KP Pr w w' := by
  obtain ⟨l, a, ids, h, nx, ρ, q, H, hv, hn, ho⟩ := s
  have c := E _ hR
  rw [S_cons, q] at c
  rcases G_two (lenL σ) r a ids h nx with q2 | ⟨h', nx', eq, q2⟩
  · rw [q2] at c; cases c
  have hSt : ∀ k, S (r :: σ) k = k a (ids2 r ids nx) h' nx' := fun k => (S_cons r σ k).trans ((q _).trans (q2 k))
  clear c q2
  rw [lenL_eq, hi] at eq
  have H1 := HR.sym (HR.keepN H k0) (0, t)
  have x1 : Ext ρ (upd ρ nx (0, t)) := H.ext _
  have lv : ∀ g, Live (upd ρ nx (0, t)) h g → g < w0.heap.size ∧ ¬ Pr g := fun g o => ⟨live_lt H (live_sym H o), ho g (live_sym H o)⟩
  have H2 := HR.fresh H1 (g := gb) (t := 1) (b := txt i) (w' := w) (fun id b' t' e1 e2 => by have := (lv gb ⟨id, b', t', e1, e2⟩).1; omega) (fun _ _ _ => rfl) (BR_txt hb)
  have x2 : Ext (upd ρ nx (0, t)) (upd (upd ρ nx (0, t)) nx.succ (gb, 1)) := H1.ext _
  have s1 : upd (upd ρ nx (0, t)) nx.succ (gb, 1) nx = some (0, t) := x2 _ _ (upd_same _ _ _)
  refine (callQ (vs := [v4, .int .i64 1, .string (qn t), .slice (some ⟨gb, 0, none⟩) 1 1]) H2 (show Vs _ (fArgs a ids r nx) _ from ⟨_, _, rfl, V_mono x2 (V_mono x1 hv), _, _, rfl, rfl, _, _, rfl, ⟨0, t, ts, s1, rfl, NmR_mono x2 _ _ (NmR_mono x1 _ _ hn), hr⟩, _, _, rfl, ⟨gb, 1, upd_same _ _ _, rfl⟩, rfl⟩) eq).mono fun x w' ⟨ρ', u, k1, k2, k3, k4⟩ => ?_
  have lv2 : ∀ g, Live (upd (upd ρ nx (0, t)) nx.succ (gb, 1)) (setP (some (txt i)) nx.succ h) g → ¬ Pr g := fun g o p => by
    rcases live_set o with rfl | o
    · have := l _ p; omega
    · exact (lv g o).2 p
  refine ⟨by rw [k1, show u = .bool r from k2], ⟨fun g p => Nat.lt_of_lt_of_le (Nat.lt_of_lt_of_le (l g p) k0.size) k4.size, a, ids2 r ids nx, h', nx', ρ', hSt, k3, V_mono k4.ext (V_mono x2 (V_mono x1 hv)), ?_, fun g o p => ?_⟩, ⟨k4.os, k4.tape, k4.output, k4.size, fun g hg hp => k4.keep g hg fun o => ?_⟩⟩
  · have n2 := NmR_mono k4.ext _ _ (NmR_mono x2 _ _ (NmR_mono x1 _ _ hn))
    cases r with
    | false => exact n2
    | true => exact NmR_add (k4.ext _ _ s1) _ _ n2
  · rcases k4.live g o with o | o
    · exact lv2 g o p
    · have := l g p; have := k0.size; omega
  · exact lv2 g (own_live o) (Classical.byContradiction fun q => hp q)
end Go.Proofs.YtkjdclpneaepkaaGreat.Qu
