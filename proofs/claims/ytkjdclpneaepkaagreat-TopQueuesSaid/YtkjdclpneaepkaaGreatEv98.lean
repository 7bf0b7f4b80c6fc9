/- TopQueues: the bodies of a queue, as a world says that stands as reckoned. -/
import Derived.Test.YtkjdclpneaepkaaGreatEv97
set_option linter.unusedVariables false
open Go Go.Ev Go.Proofs Go.RowKit
namespace Go.Proofs.YtkjdclpneaepkaaGreat.Qu
def IntV (v : Value) : Prop := ∃ n, v = .int .i64 n
def SliV (v : Value) : Prop := ∃ a n c, v = .slice a n c
theorem isI_V {ρ : Ren} {a : AV} {v : Value} (h : isI a = true) (hv : V ρ a v) : IntV v := by
  unfold isI at h
  split at h
  · exact ⟨_, hv⟩
  · cases h
theorem isSl_V {ρ : Ren} {a : AV} {v : Value} (h : isSl a = true) (hv : V ρ a v) : SliV v := by
  unfold isSl at h
  split at h
  · exact ⟨_, _, _, hv⟩
  · obtain ⟨a, c, hv⟩ := hv; exact ⟨_, _, _, hv⟩
  · obtain ⟨b, t, -, hv⟩ := hv; exact ⟨_, _, _, hv⟩
  · obtain ⟨b, t, -, hv⟩ := hv; exact ⟨_, _, _, hv⟩
  · cases h
/-- Rows of messages: names, texts. -/
def MsRows : List Nat → List Nat → List Value → Prop
  | [], [], us => us = []
  | i :: l, t :: ts, us => ∃ v0 v3 r, (IntV v0 ∧ IntV v3) ∧ us = v0 :: .string (qn t) :: .string (tx i) :: v3 :: .int .i64 0 :: .int .i64 0 :: r ∧ MsRows l ts r
  | _, _, _ => False
theorem MsRows.len : ∀ (l ts : List Nat) (us : List Value), MsRows l ts us → ts.length = l.length
  | [], [], _, _ => rfl
  | _ :: l, _ :: ts, _, ⟨_, _, r, _, _, h⟩ => by rw [List.length_cons, List.length_cons, MsRows.len l ts r h]
  | [], _ :: _, _, h => h.elim
  | _ :: _, [], _, h => h.elim
theorem MsRows.at : ∀ (l ts : List Nat) (us : List Value), MsRows l ts us → ∀ i (hi : i < l.length) (hi' : i < ts.length), ∃ v0 v3, (IntV v0 ∧ IntV v3) ∧ us[i * 6]? = some v0 ∧ us[i * 6 + 1]? = some (.string (qn ts[i])) ∧ us[i * 6 + 2]? = some (.string (tx l[i])) ∧ us[i * 6 + 3]? = some v3 ∧ us[i * 6 + 4]? = some (.int .i64 0) ∧ us[i * 6 + 5]? = some (.int .i64 0)
  | [], [], _, _, i, hi, _ => by simp at hi
  | x :: l, t :: ts, _, ⟨v0, v3, r, o, e, h⟩, i, hi, hi' => by
    subst e
    cases i with
    | zero => exact ⟨v0, v3, o, rfl, rfl, rfl, rfl, rfl, rfl⟩
    | succ i =>
      obtain ⟨w0, w3, q⟩ := MsRows.at l ts r h i (by simpa using hi) (by simpa using hi')
      refine ⟨w0, w3, ?_⟩
      rw [show (i + 1) * 6 = i * 6 + 6 by omega]
      exact q
  | [], _ :: _, _, h, _, _, _ => h.elim
  | _ :: _, [], _, h, _, _, _ => h.elim
theorem msK_cons (i : Nat) (l : List Nat) (ids : List Pa) (c : AV) : msK (i :: l) ids c = (match ids, c with
    | id :: ids, .cn x0 (.cn (.y id' _ _) (.cn (.s b) (.cn x3 (.cn (.i .i64 (.ofNat 0)) (.cn (.i .i64 (.ofNat 0)) c))))) => ifV (isI x0 && isI x3) (ifV (eqPa id id') (ifV (eqS b [Nat.add 48 i]) (msK l ids c)))
    | _, _ => false) := rfl
theorem msK_ok {ρ : Ren} : ∀ (l : List Nat) (ids : List Pa) (c : AV) (us : List Value) (ts : List Nat), msK l ids c = true → Vs ρ c us → NmR ρ ids ts → MsRows l ts us
  | [], ids, c, us, ts, e, hv, hn => by
    have e : (match (generalizing := false) ids, c with | [], .nl => true | _, _ => false) = true := e
    split at e
    · rw [show ts = [] from hn]; exact hv
    · cases e
  | i :: l, ids, c, us, ts, e, hv, hn => by
    rw [msK_cons] at e
    split at e
    · rename_i id ids x0 id' l0 r0 b x3 c
      obtain ⟨f1, e0⟩ := ifV_ok e
      obtain ⟨e1, e3⟩ := ifV_ok e0
      obtain ⟨e2, e4⟩ := ifV_ok e3
      obtain ⟨f1, f2⟩ := and_ok f1
      clear e e0 e3
      cases eqPa_eq _ _ e1
      obtain ⟨b0, t, rs, n1, rfl, n2⟩ := hn
      obtain ⟨u0, y0, rfl, h0, u1, y1, rfl, ⟨b1, t1, ts1, m1, rfl, -⟩, u2, y2, rfl, h2, u3, y3, rfl, h3, u4, y4, rfl, h4, u5, y5, rfl, h5, h6⟩ := hv
      rw [n1] at m1
      cases m1
      cases (show u4 = .int .i64 0 from h4)
      cases (show u5 = .int .i64 0 from h5)
      have hb : u2 = .string (tx i) := by
        rw [show u2 = .string (bsOf b) from h2]
        rw [eqS_eq] at e2
        have e2 : b.map UInt8.ofNat = [Nat.add 48 i].map UInt8.ofNat := by simpa using e2
        unfold tx bsOf
        rw [e2]; rfl
      subst hb
      exact ⟨_, _, _, ⟨isI_V f1 h0, isI_V f2 h3⟩, rfl, msK_ok l ids c y5 rs e4 h6 n2⟩
    · cases e
/-- A state that tells its messages. -/
theorem msV_ok {ρ : Ren} {h : Hp} {nx : Pa} {w : World} (H : HR ρ h nx w) {l : List Nat} {ids : List Pa} {s : AV} {sv : Value} (hv : V ρ s sv) (e : msV l ids s h = true) {ts : List Nat} (hn : NmR ρ ids ts) :
    ∃ u0 u1 u2 u3 u5 u6 u7 u8 ao cp, sv = .agg #[u0, u1, u2, u3, .slice ao l.length cp, u5, u6, u7, u8] ∧ (IntV u0 ∧ IntV u1 ∧ IntV u2 ∧ IntV u3 ∧ SliV u5 ∧ SliV u6 ∧ SliV u7 ∧ SliV u8) ∧ ts.length = l.length ∧ ∀ i (hi : i < l.length) (hi' : i < ts.length), ∃ g v0 v3, ao = some ⟨g, 0, none⟩ ∧ (IntV v0 ∧ IntV v3) ∧ w.cell? ⟨g, i * 6, none⟩ = some v0 ∧ w.cell? ⟨g, i * 6 + 1, none⟩ = some (.string (qn ts[i])) ∧ w.cell? ⟨g, i * 6 + 2, none⟩ = some (.string (tx l[i])) ∧ w.cell? ⟨g, i * 6 + 3, none⟩ = some v3 ∧ w.cell? ⟨g, i * 6 + 4, none⟩ = some (.int .i64 0) ∧ w.cell? ⟨g, i * 6 + 5, none⟩ = some (.int .i64 0) := by
  unfold msV at e
  split at e
  · rename_i a0 a1 a2 a3 ms a5 a6 a7 a8
    obtain ⟨ef, e⟩ := ifV_ok e
    obtain ⟨f0, ef⟩ := and_ok ef
    obtain ⟨f1, ef⟩ := and_ok ef
    obtain ⟨f2, ef⟩ := and_ok ef
    obtain ⟨f3, ef⟩ := and_ok ef
    obtain ⟨f5, ef⟩ := and_ok ef
    obtain ⟨f6, ef⟩ := and_ok ef
    obtain ⟨f7, f8⟩ := and_ok ef
    obtain ⟨xs, ⟨u0, y0, rfl, g0, u1, y1, rfl, g1, u2, y2, rfl, g2, u3, y3, rfl, g3, u4, y4, rfl, h4, u5, y5, rfl, g5, u6, y6, rfl, g6, u7, y7, rfl, g7, u8, y8, rfl, g8, hz⟩, rfl⟩ := hv
    cases (show y8 = [] from hz)
    have hfl8 : IntV u0 ∧ IntV u1 ∧ IntV u2 ∧ IntV u3 ∧ SliV u5 ∧ SliV u6 ∧ SliV u7 ∧ SliV u8 := ⟨isI_V f0 g0, isI_V f1 g1, isI_V f2 g2, isI_V f3 g3, isSl_V f5 g5, isSl_V f6 g6, isSl_V f7 g7, isSl_V f8 g8⟩
    have key : ∀ (id : Pa) (n cp : Nat) (b t : Nat), ρ id = some (b, t) → u4 = .slice (some ⟨b, 0, none⟩) n cp → Nat.beq n (lenL l) = true → Option.casesOn (sCells 6 ms h) false (msK l ids) = true →
        ∃ u0' u1' u2' u3' u5' u6' u7' u8' ao cp, Value.agg #[u0, u1, u2, u3, u4, u5, u6, u7, u8] = .agg #[u0', u1', u2', u3', .slice ao l.length cp, u5', u6', u7', u8'] ∧ (IntV u0' ∧ IntV u1' ∧ IntV u2' ∧ IntV u3' ∧ SliV u5' ∧ SliV u6' ∧ SliV u7' ∧ SliV u8') ∧ ts.length = l.length ∧ ∀ i (hi : i < l.length) (hi' : i < ts.length), ∃ g v0 v3, ao = some ⟨g, 0, none⟩ ∧ (IntV v0 ∧ IntV v3) ∧ w.cell? ⟨g, i * 6, none⟩ = some v0 ∧ w.cell? ⟨g, i * 6 + 1, none⟩ = some (.string (qn ts[i])) ∧ w.cell? ⟨g, i * 6 + 2, none⟩ = some (.string (tx l[i])) ∧ w.cell? ⟨g, i * 6 + 3, none⟩ = some v3 ∧ w.cell? ⟨g, i * 6 + 4, none⟩ = some (.int .i64 0) ∧ w.cell? ⟨g, i * 6 + 5, none⟩ = some (.int .i64 0) := fun id n cp b t e1 e2 e3 e => by
      have e3 := Nat.eq_of_beq_eq_true e3
      rw [lenL_eq] at e3
      cases e4 : sCells 6 ms h with
      | none => rw [e4] at e; cases e
      | some c =>
        rw [e4] at e
        obtain ⟨b', n', cp', us, q1, q2, q3, q4⟩ := sCells_get H h4 e4
        rw [e2] at q1
        cases q1
        have hr := msK_ok l ids c us ts e q2 hn
        have hl := hr.len
        refine ⟨u0, u1, u2, u3, u5, u6, u7, u8, some ⟨b, 0, none⟩, cp, by rw [e2, e3], hfl8, hl, fun i hi hi' => ?_⟩
        obtain ⟨v0, v3, po, p0, p1, p2, p3, p4, p5⟩ := hr.at _ _ _ i hi hi'
        have q4 : ∀ j u, us[j]? = some u → w.cell? ((⟨b, 0, none⟩ : Addr).add j) = some u := q4
        have q5 : ∀ j u, us[j]? = some u → w.cell? ⟨b, j, none⟩ = some u := fun j u q => by
          have := q4 j u q
          simp only [Addr.add] at this
          refine Eq.trans ?_ this
          by_cases hj : j = 0 <;> simp [hj]
        exact ⟨b, v0, v3, rfl, po, q5 _ _ p0, q5 _ _ p1, q5 _ _ p2, q5 _ _ p3, q5 _ _ p4, q5 _ _ p5⟩
    cases ms with
    | ns =>
      have e : (match l, ids with | [], [] => true | _, _ => false) = true := e
      split at e
      · cases (show u4 = .slice none 0 0 from h4)
        rw [show ts = [] from hn]
        exact ⟨_, _, _, _, _, _, _, _, _, _, rfl, hfl8, rfl, fun i hi => by simp at hi⟩
      · cases e
    | sl id off n cap =>
      have e : ifV (Nat.beq off 0) (ifV (Nat.beq n (lenL l)) (Option.casesOn (sCells 6 (.sl id off n cap) h) false (msK l ids))) = true := e
      obtain ⟨e1, e⟩ := ifV_ok e
      obtain ⟨e2, e⟩ := ifV_ok e
      cases Nat.eq_of_beq_eq_true e1
      obtain ⟨b, t, k1, k2⟩ := h4
      exact key id n _ b t k1 k2 e2 e
    | so id off n es =>
      have e : ifV (Nat.beq off 0) (ifV (Nat.beq n (lenL l)) (Option.casesOn (sCells 6 (.so id off n es) h) false (msK l ids))) = true := e
      obtain ⟨e1, e⟩ := ifV_ok e
      obtain ⟨e2, e⟩ := ifV_ok e
      cases Nat.eq_of_beq_eq_true e1
      obtain ⟨b, t, k1, k2⟩ := h4
      exact key id n _ b t k1 k2 e2 e
    | _ => cases e
  · cases e
/-- Where a world stands behind all rounds, some bodies having been asked for: m may be asked for still. -/
structure St2 (Pr : Nat → Prop) (v4 : Value) (l : List Nat) (ts : List Nat) (m : Nat) (w : World) : Prop where
  lt : ∀ g, Pr g → g < w.heap.size
  st : ∃ a ids h nx ρ, bods l a ids m h nx = true ∧ HR ρ h nx w ∧ V ρ a v4 ∧ NmR ρ ids ts ∧ ∀ g, Live ρ h g → ¬ Pr g
theorem St.two {Pr : Nat → Prop} {v4 : Value} {σ : List Bool} {ts : List Nat} {w : World} (E : AllOk) (s : St Pr v4 σ ts w) (hR : Rch σ) : St2 Pr v4 (ins σ) ts 8 w := by
  obtain ⟨l, a, ids, h, nx, ρ, q, H, hv, hn, ho⟩ := s
  have c := E σ hR
  rw [q] at c
  exact ⟨l, a, ids, h, nx, ρ, c, H, hv, hn, ho⟩
theorem St2.keep {Pr : Nat → Prop} {v4 : Value} {l ts : List Nat} {m : Nat} {w w' : World} (s : St2 Pr v4 l ts m w) (k : Keep NoF w w') : St2 Pr v4 l ts m w' := by
  obtain ⟨lt, a, ids, h, nx, ρ, c, H, hv, hn, ho⟩ := s
  exact ⟨fun g p => Nat.lt_of_lt_of_le (lt g p) k.size, a, ids, h, nx, ρ, c, HR.keepN H k, hv, hn, ho⟩
theorem St2.mono {Pr Pr' : Nat → Prop} {v4 : Value} {l ts : List Nat} {m : Nat} {w : World} (s : St2 Pr v4 l ts m w) (h : ∀ g, Pr' g → Pr g) : St2 Pr' v4 l ts m w := by
  obtain ⟨lt, a, ids, hp, nx, ρ, c, H, hv, hn, ho⟩ := s
  exact ⟨fun g p => lt g (h g p), a, ids, hp, nx, ρ, c, H, hv, hn, fun g o p => ho g o (h g p)⟩
/-- The texts of one queue. -/
def of1 (l ts : List Nat) (t : Nat) : List Nat := ((l.zip ts).filter fun p => p.2 % 8 == t % 8).map (·.1)
end Go.Proofs.YtkjdclpneaepkaaGreat.Qu
