/- TopQueues: the hooks say what the program does; the evaluator with them. -/
import Derived.Test.YtkjdclpneaepkaaGreatEv93
set_option linter.unusedVariables false
open Go Go.Ev Go.RowKit
namespace Go.Proofs.YtkjdclpneaepkaaGreat
theorem callY {f : Nat} {args : AV} {h : Hp} {nx : Pa} {av : AV} {h' : Hp} {nx' : Pa} {ρ : Ren} {w : World} {vs : List Value} (H : HR ρ h nx w) (hv : Vs ρ args vs) (e : cY f args h nx = .ok av h' nx') :
    Calls Tryz.prog f vs.toArray w fun x w' => ∃ ρ' v, x = .returned v ∧ V ρ' av v ∧ HR ρ' h' nx' w' ∧ Stp ρ h w ρ' h' w' :=
  (okCY f args h nx av h' nx' ρ w vs H hv e).2
/-- Nothing that the memory owns not has changed. -/
theorem Stp.keepN {ρ ρ' : Ren} {h h' : Hp} {w w' : World} (s : Stp ρ h w ρ' h' w') (ho : ∀ g, ¬ Own ρ h g) : Keep NoF w w' := ⟨s.os, s.tape, s.output, s.size, fun g hg _ => s.keep g hg (ho g)⟩
theorem Stp.ofKeep {ρ : Ren} {h : Hp} {w w' : World} (k : Keep NoF w w') : Stp ρ h w ρ h w' := ⟨Ext.refl ρ, k.os, k.tape, k.output, k.size, fun g hg _ => k.block g hg (fun f => f), fun g o => .inl o, fun g o => .inl o⟩
theorem HR.keepN {ρ : Ren} {h : Hp} {nx : Pa} {w w' : World} (H : HR ρ h nx w) (k : Keep NoF w w') : HR ρ h nx w' := HR.keepW H fun g hg => k.block g hg (fun f => f)
noncomputable def kqB (j : Nat) : Bool := Rv.rec (motive := fun _ => Bool) (fun _ => false) (fun a _ _ => match a with | .b true => true | _ => false) (cY 124 (.cn (.s [113, Nat.add 97 j]) .nl) .lf .e)
theorem kq8 : (kqB 0 && (kqB 1 && (kqB 2 && (kqB 3 && (kqB 4 && (kqB 5 && (kqB 6 && kqB 7))))))) = true := by kernel_rfl
theorem kq_all : ∀ j, j < 8 → kqB j = true := fun j hj => by
  obtain ⟨h0, q⟩ := and_ok kq8
  obtain ⟨h1, q⟩ := and_ok q
  obtain ⟨h2, q⟩ := and_ok q
  obtain ⟨h3, q⟩ := and_ok q
  obtain ⟨h4, q⟩ := and_ok q
  obtain ⟨h5, q⟩ := and_ok q
  obtain ⟨h6, h7⟩ := and_ok q
  match j, hj with
  | 0, _ => exact h0
  | 1, _ => exact h1
  | 2, _ => exact h2
  | 3, _ => exact h3
  | 4, _ => exact h4
  | 5, _ => exact h5
  | 6, _ => exact h6
  | 7, _ => exact h7
theorem kqueue_qn (t : Nat) (w : World) : Calls Tryz.prog 124 #[.string (qn t)] w fun e w' => e = .returned (.bool true) ∧ Keep NoF w w' := by
  have h := kq_all (t % 8) (Nat.mod_lt _ (by decide))
  unfold kqB at h
  cases e : cY 124 (.cn (.s [113, Nat.add 97 (t % 8)]) .nl) .lf .e with
  | bad n => rw [e] at h; cases h
  | ok a h1 n1 =>
    rw [e] at h
    have ha : a = .b true := by
      cases a with
      | b x => cases x with
        | true => rfl
        | false => cases h
      | _ => cases h
    subst ha
    refine (callY (vs := [.string (qn t)]) (H00 w) (show Vs (fun _ => none) (.cn (.s [113, Nat.add 97 (t % 8)]) .nl) [.string (qn t)] from ⟨_, _, rfl, rfl, rfl⟩) e).mono fun x w' ⟨ρ', v, k1, k2, k3, k4⟩ => ⟨?_, Stp.keepN k4 fun g ⟨id, b, t, q, _⟩ => by rw [getP_lf] at q; cases q⟩
    rw [k1, show v = .bool true from k2]
theorem hook_queue : HookAt Tryz.prog 124 hQueue := fun args h nx av h' nx' ρ w vs H hv e => by
  unfold hQueue at e
  split at e
  · rename_i id l r
    obtain ⟨rfl, rfl, rfl⟩ := Go.Ev.ok3 e
    obtain ⟨v, r1, rfl, ⟨b, t, ts, -, rfl, -⟩, h0⟩ := hv
    cases (show r1 = [] from h0)
    exact (kqueue_qn t w).mono fun x w' ⟨k1, k2⟩ => ⟨ρ, _, k1, rfl, HR.keepN H k2, Stp.ofKeep k2⟩
  · cases e
theorem isBy_V {ρ : Ren} {a : AV} {v : Value} (h : isBy a = true) (hv : V ρ a v) : ∃ x : UInt8, v = bval x := by
  unfold isBy at h
  split at h
  · obtain ⟨n, rfl⟩ := hv; exact ⟨n, rfl⟩
  · rename_i k m
    obtain ⟨h1, h2⟩ := and_ok h
    cases eqK_eq h1
    have h2 := Nat.le_of_ble_eq_true h2
    refine ⟨UInt8.ofNat m, ?_⟩
    rw [show v = .int .u8 (Int.ofNat m) from hv]
    unfold bval
    congr 1
    rw [UInt8.toNat_ofNat']
    show (m : Int) = _
    congr 1
    omega
  · cases h
theorem bysA_bytes {ρ : Ren} : ∀ (c : AV) (us : List Value), Vs ρ c us → bysA c = true → ∃ l : List UInt8, us = l.map bval :=
  Vs_ind (fun _ => ⟨[], rfl⟩) fun x y v r h1 _ ih h => by
    have h : (bif isBy x then bysA y else false) = true := h
    cases e : isBy x with
    | false => rw [e] at h; cases h
    | true =>
      rw [e] at h
      obtain ⟨b, rfl⟩ := isBy_V e h1
      obtain ⟨l, rfl⟩ := ih h
      exact ⟨b :: l, rfl⟩
theorem six_at (i : Nat) (v : AV) (h : getP (path i) six = some v) : i < 6 ∧ v = .uk := by
  have step : ∀ (k : Nat) (t : T AV), getP (path i) (setP (some .uk) (path k) t) = some v → (i = k ∧ v = .uk) ∨ getP (path i) t = some v := fun k t e => by
    rcases get_set' (some AV.uk) (path i) (path k) t with ⟨h1, h2⟩ | ⟨h1, h2⟩
    · rw [h1] at e; cases e; exact .inl ⟨path_inj h2, rfl⟩
    · rw [h1] at e; exact .inr e
  unfold six at h
  rcases step 5 _ h with ⟨rfl, r⟩ | h
  · exact ⟨by omega, r⟩
  rcases step 4 _ h with ⟨rfl, r⟩ | h
  · exact ⟨by omega, r⟩
  rcases step 3 _ h with ⟨rfl, r⟩ | h
  · exact ⟨by omega, r⟩
  rcases step 2 _ h with ⟨rfl, r⟩ | h
  · exact ⟨by omega, r⟩
  rcases step 1 _ h with ⟨rfl, r⟩ | h
  · exact ⟨by omega, r⟩
  rcases step 0 _ h with ⟨rfl, r⟩ | h
  · exact ⟨by omega, r⟩
  rw [getP_lf] at h; cases h
theorem hook_sized : HookAt Tryz.prog 428 hSized := fun args h nx av h' nx' ρ w vs H hv e => by
  unfold hSized at e
  split at e
  · rename_i x
    obtain ⟨v1, r1, rfl, h1, h0⟩ := hv
    cases (show r1 = [] from h0)
    cases e1 : sCells 1 x h with
    | none => rw [e1] at e; cases e
    | some c =>
      rw [e1] at e
      replace ⟨k, e⟩ := cut1 e (noBad _)
      obtain ⟨k1, k2⟩ := and_ok k
      obtain ⟨rfl, rfl, rfl⟩ := Go.Ev.ok3 e
      obtain ⟨b, n, cp, us, q1, q2, q3, q4⟩ := sCells_get H h1 e1
      obtain ⟨l, rfl⟩ := bysA_bytes c us q2 k1
      rw [Vs_size _ _ q2, q3] at k2
      have k2 := Nat.le_of_ble_eq_true k2
      subst q1
      have hln : l.length = n := by simpa using q3
      refine (sized_q b cp n l w hln (by omega) fun i hi => ?_).mono fun y y' ⟨g, cap, cur, T, l2, j1, j2, j3, j4, j5, j6, j7, j8⟩ => ?_
      · cases b with
        | none => have q4 : n = 0 := q4; omega
        | some ad =>
          have q4 : ∀ j u, (l.map bval)[j]? = some u → w.cell? (ad.add j) = some u := q4
          have hc := q4 i (bval l[i]) (by simp [List.getElem?_eq_getElem hi])
          have hp := q4 0 (bval (l[0]'(by omega))) (by simp [List.getElem?_eq_getElem (show 0 < l.length by omega)])
          obtain ⟨g, off, sp⟩ := ad
          cases sp with
          | none =>
            refine ⟨g, off, rfl, ?_⟩
            by_cases hi0 : i = 0
            · subst hi0; simpa [Addr.add] using hc
            · simpa [Addr.add, hi0] using hc
          | some s' =>
            exfalso
            simp only [Addr.add, if_true, World.cell?] at hp
            split at hp
            · simp [bval] at hp
            · cases hp
      · have hcs : cur.toList.length = cap := by rw [Array.length_toList]; exact j5
        have hB : ∀ ρ2 : Ren, BR ρ2 (.ce six 6 true false) g cap y' := fun ρ2 => by
          refine ⟨cur, T, (0, 0), j3, j5, j4, fun i v hi => ?_, fun _ => .inl rfl, fun q => by cases q⟩
          obtain ⟨hi6, rfl⟩ := six_at i v hi
          refine ⟨hi6, bval (l2[i]'(by omega)), ?_, _, rfl⟩
          rw [← Array.getElem?_toList, ← List.getElem?_take_of_lt hi6, j6]
          simp [bvs, List.getElem?_eq_getElem (show i < l2.length by omega)]
        have hH := HR.fresh H (g := g) (t := cap) (b := .ce six 6 true false) (w' := y') (fun id b' t' e1 e2 => by
          obtain ⟨g', t2, e3, e4⟩ := H.blk id b' e1
          rw [e2] at e3; cases e3
          have := e4.lt; omega) (fun k _ hk => j8.block k hk (fun f => f)) (hB _)
        refine ⟨upd ρ nx (g, cap), _, j1, ⟨g, cap, upd_same _ _ _, by simp⟩, hH, ⟨H.ext _, j8.os, j8.tape, j8.output, j8.size, fun k hk _ => j8.block k hk (fun f => f), fun k o => ?_, fun k o => ?_⟩⟩
        · rcases own_set o with rfl | o
          · exact .inr j2
          · exact .inl o
        · rcases live_set o with rfl | o
          · exact .inr j2
          · exact .inl o
  · cases e
/-! ### order.Room -/
theorem NmR_len {ρ : Ren} : ∀ l ts, NmR ρ l ts → ts.length = l.length
  | [], ts, h => by rw [show ts = [] from h]; rfl
  | _ :: l, ts, ⟨b, t, r, _, e, k⟩ => by rw [e, List.length_cons, List.length_cons, NmR_len l r k]
theorem one_HR {ρ : Ren} {h h0 : Hp} {nx : Pa} {w : World} (H : HR ρ h nx w) {ms : AV} (e : oneB ms h = some h0) : HR ρ h0 nx w ∧ ∀ g, ¬ Own ρ h0 g := by
  have key : ∀ id : Pa, (Option.casesOn (getP id h) none fun b => Blk.casesOn b (fun t n _ pl => some (setP (some (Blk.ce t n false pl)) id .lf)) (fun _ _ => none) (fun _ _ _ _ => none) (fun _ _ _ _ => none) : Option Hp) = some h0 → HR ρ h0 nx w ∧ ∀ g, ¬ Own ρ h0 g := fun id e => by
    cases e1 : getP id h with
    | none => rw [e1] at e; cases e
    | some b =>
      rw [e1] at e
      cases b with
      | ce t n rw' pl =>
        have e : some (setP (some (Blk.ce t n false pl)) id .lf) = some h0 := e
        cases e
        have aux : ∀ id' b', getP id' (setP (some (Blk.ce t n false pl)) id .lf) = some b' → id' = id ∧ b' = Blk.ce t n false pl := fun id' b' q => by
          rcases get_set' (some (Blk.ce t n false pl)) id' id .lf with ⟨q1, q2⟩ | ⟨q1, q2⟩
          · rw [q1] at q; cases q; exact ⟨q2, rfl⟩
          · rw [q1, getP_lf] at q; cases q
        refine ⟨⟨H.dom, fun id' b' q => ?_, fun id' id2 b1 b2 k t1 t2 q1 q2 _ _ => by rw [(aux _ _ q1).1, (aux _ _ q2).1]⟩, fun g ⟨id', b', t', q1, q2, _⟩ => by rw [(aux _ _ q1).2] at q2; cases q2⟩
        obtain ⟨rfl, rfl⟩ := aux _ _ q
        obtain ⟨g, t', q1, c, ty, fz, q2, q3, q4, q5, q6, q7⟩ := H.blk _ _ e1
        exact ⟨g, t', q1, c, ty, fz, q2, q3, q4, q5, (fun q => by cases q), q7⟩
      | mp _ _ => cases e
      | ch _ _ _ _ => cases e
      | it _ _ _ _ => cases e
  cases ms with
  | ns =>
    cases (show some (T.lf : Hp) = some h0 from e)
    exact ⟨⟨H.dom, fun id b q => (by rw [getP_lf] at q; cases q), fun id id' b b' g t t' q => (by rw [getP_lf] at q; cases q)⟩, fun g ⟨id, b, t, q, _⟩ => by rw [getP_lf] at q; cases q⟩
  | sl id a b c => exact key id e
  | so id a b c => exact key id e
  | _ => cases e
theorem nmA_names {ρ : Ren} : ∀ (c : AV) (us : List Value), Vs ρ c us → ∀ ids, nmA c = some ids → ∀ ts, NmR ρ ids ts → us = ts.map fun t => Value.string (qn t) :=
  Vs_ind (fun ids e ts k => by cases e; rw [show ts = [] from k]; rfl) fun x y v r h1 _ ih ids e ts k => by
    cases x with
    | y id l0 r0 =>
      have e : (Option.casesOn (nmA y) none fun r => some (id :: r) : Option (List Pa)) = some ids := e
      cases q : nmA y with
      | none => rw [q] at e; cases e
      | some i2 =>
        rw [q] at e
        cases (show some (id :: i2) = some ids from e)
        obtain ⟨b, t, rs, k1, rfl, k2⟩ := k
        obtain ⟨b', t', ts', m1, m2, -⟩ := h1
        rw [k1] at m1
        cases m1
        rw [ih _ q _ k2, m2]; rfl
    | _ => cases e
theorem nmR_names {ρ : Ren} {h : Hp} {nx : Pa} {w : World} (H : HR ρ h nx w) {s ms : AV} {sv : Value} (hs : V ρ s sv) {ids : List Pa} (e : nmR cY 381 s .ns ms h nx = some ids) {ts : List Nat} (hn : NmR ρ ids ts) : NamesAt w sv ts := fun W hk => by
  unfold nmR at e
  cases e0 : oneB ms h with
  | none => rw [e0] at e; cases e
  | some h0 =>
    rw [e0] at e
    obtain ⟨H0, ho⟩ := one_HR H e0
    cases e1 : cY 381 (.cn s (.cn .ns .nl)) h0 nx with
    | bad n => simp only [e1] at e; cases e
    | ok v h1 n1 =>
      simp only [e1] at e
      refine (callY (vs := [sv, .slice none 0 0]) (HR.keepN H0 hk) (show Vs ρ (.cn s (.cn .ns .nl)) [sv, .slice none 0 0] from ⟨_, _, rfl, hs, _, _, rfl, rfl, rfl⟩) e1).mono fun x w' ⟨ρ', u, k1, k2, k3, k4⟩ => ⟨u, k1, ?_, Stp.keepN k4 ho⟩
      have hn' := NmR_mono k4.ext _ _ hn
      cases v with
      | ns =>
        cases (show some [] = some ids from e)
        exact .inl ⟨k2, hn⟩
      | so id off n es =>
        have e : (bif Nat.beq off 0 && Nat.beq es 1 && Nat.blt 0 n then Option.casesOn (getP id h1) none fun b => Blk.casesOn b (fun _ _ rw pl => bif rw && pl then Option.casesOn (sCells 1 (.so id off n es) h1) none nmA else none) (fun _ _ => none) (fun _ _ _ _ => none) (fun _ _ _ _ => none) else none : Option (List Pa)) = some ids := e
        replace ⟨c1, e⟩ := cutO e
        obtain ⟨c1, c4⟩ := and_ok c1
        obtain ⟨c1, c2⟩ := and_ok c1
        obtain rfl := Nat.eq_of_beq_eq_true c1
        obtain rfl := Nat.eq_of_beq_eq_true c2
        have c4 : 0 < n := Nat.le_of_ble_eq_true c4
        cases e2 : getP id h1 with
        | none => rw [e2] at e; cases e
        | some b =>
          rw [e2] at e
          cases b with
          | ce tr nn rw' pl =>
            have e : (bif rw' && pl then Option.casesOn (sCells 1 (.so id 0 n 1) h1) none nmA else none : Option (List Pa)) = some ids := e
            replace ⟨c5, e⟩ := cutO e
            obtain ⟨rfl, rfl⟩ := and_ok c5
            cases e3 : sCells 1 (.so id 0 n 1) h1 with
            | none => rw [e3] at e; cases e
            | some c =>
              rw [e3] at e
              obtain ⟨b, n', cp, us, q1, q2, q3, q4⟩ := sCells_get k3 k2 e3
              have q5 := nmA_names c us q2 _ e _ hn'
              obtain ⟨g, t, p1, p2⟩ := k2
              obtain ⟨g', t', p3, cc, T, fz, p4, p5, p6, p7, p8, p9⟩ := k3.blk _ _ e2
              rw [p1] at p3
              cases p3
              obtain rfl := p9 rfl
              rw [p2] at q1
              cases q1
              have q4 : ∀ j u, us[j]? = some u → w'.cell? ((⟨g, 0, none⟩ : Addr).add j) = some u := q4
              subst q5
              have hl : ts.length = n := by simpa using q3
              have hcell : ∀ i (hi : i < ts.length), cc[i]? = some (encStr (qnL ts[i])) := fun i hi => by
                have := q4 i (.string (qn ts[i])) (by rw [List.getElem?_map, List.getElem?_eq_getElem hi]; rfl)
                simp only [Addr.add] at this
                rw [← cell_of_heap p4]
                refine Eq.trans ?_ this
                by_cases hi0 : i = 0 <;> simp [hi0]
              have hle : n ≤ cc.size := by
                have := (Array.getElem?_eq_some_iff.1 (hcell (n - 1) (by omega))).1
                omega
              refine .inr ⟨g, t, cc, T, ?_, ?_, p4, by omega, p5, by omega, hcell⟩
              · rw [p2, hl]; simp
              · rcases k4.own g ⟨id, _, t, e2, rfl, p1⟩ with o | o
                · exact absurd o (ho g)
                · exact o
          | mp _ _ => cases e
          | ch _ _ _ _ => cases e
          | it _ _ _ _ => cases e
      | _ => cases e
theorem hook_room : HookAt Tryz.prog 278 (hRoom cY 381) := fun args h nx av h' nx' ρ w vs H hv e => by
  unfold hRoom at e
  split at e
  · rename_i a0 a1 a2 a3 ms a5 a6 a7 a8 id l r
    obtain ⟨v1, r1, rfl, hs, v2, r2, rfl, ⟨b, t, ts, m1, rfl, m3, m4⟩, v3, r3, rfl, h3, h0⟩ := hv
    cases (show r3 = [] from h0)
    cases (show v3 = .slice none 0 0 from h3)
    have hs' := hs
    obtain ⟨xs, ⟨u0, y0, rfl, -, u1, y1, rfl, -, u2, y2, rfl, -, u3, y3, rfl, -, u4, y4, rfl, -, u5, y5, rfl, -, u6, y6, rfl, -, u7, y7, rfl, -, u8, y8, rfl, -, hz⟩, rfl⟩ := hs
    cases (show y8 = [] from hz)
    cases e1 : nmR cY 381 (.ag (.cn a0 (.cn a1 (.cn a2 (.cn a3 (.cn ms (.cn a5 (.cn a6 (.cn a7 (.cn a8 .nl)))))))))) .ns ms h nx with
    | none => rw [e1] at e; cases e
    | some ids =>
      rw [e1] at e
      replace ⟨k, e⟩ := cut1 e (noBad _)
      obtain ⟨k1, k2⟩ := and_ok k
      obtain ⟨rfl, rfl, rfl⟩ := Go.Ev.ok3 e
      cases eqPl_eq _ _ k1
      have hN := nmR_names H hs' e1 m3
      have hl := NmR_len _ _ m3
      rw [lenL_eq] at k2
      have k2 := Nat.le_of_ble_eq_true k2
      exact (room_any u0 u1 u2 u3 u4 u5 u6 u7 u8 ts t w (by omega) hN).mono fun x w' ⟨j1, j2⟩ => ⟨ρ, _, j1, by rw [m4]; rfl, HR.keepN H j2, Stp.ofKeep j2⟩
  · cases e
theorem okQ : HookOk Tryz.prog (fun f => getP (path f) TQ) := hook_add (hook_add (hook_add okY hook_queue) hook_sized) hook_room
theorem okCQ : CallOk Tryz.prog cQ := runXT_ok kTAll fnAll mixed okQ 200
theorem callQ {f : Nat} {args : AV} {h : Hp} {nx : Pa} {av : AV} {h' : Hp} {nx' : Pa} {ρ : Ren} {w : World} {vs : List Value} (H : HR ρ h nx w) (hv : Vs ρ args vs) (e : cQ f args h nx = .ok av h' nx') :
    Calls Tryz.prog f vs.toArray w fun x w' => ∃ ρ' v, x = .returned v ∧ V ρ' av v ∧ HR ρ' h' nx' w' ∧ Stp ρ h w ρ' h' w' :=
  (okCQ f args h nx av h' nx' ρ w vs H hv e).2
end Go.Proofs.YtkjdclpneaepkaaGreat
