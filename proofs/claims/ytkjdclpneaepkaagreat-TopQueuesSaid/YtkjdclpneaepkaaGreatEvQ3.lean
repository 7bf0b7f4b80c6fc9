/- All hooks; functions that answer true, as hooks. A log is opened on a new disk: reckoned once, where nothing else is, and moved to any place. Quick ways of four functions: one byte's sum, a segment's name, a file that is not there. A quick way of sum.On: bytes that are known. -/
import Derived.Test.YtkjdclpneaepkaaGreatEvQ1
import Derived.Test.YtkjdclpneaepkaaGreatEvQ2
import Derived.Test.YtkjdclpneaepkaaGreatBase
import Derived.Test.YtkjdclpneaepkaaGreatCrc
set_option linter.unusedVariables false
section
open Go
namespace Go.Ev
noncomputable section
def okT (r : Rv) : Bool := match r with | .ok (.b x) _ _ => x | _ => false
def hTrue : Hook := fun a h nx => match a with | .nl => .ok (.b true) h nx | _ => .bad 140
theorem hook_trueX {P : Program} {c : CallF} (hC : CallOk P c) {f : Nat} (e : okT (c f .nl .lf .e) = true) : HookAt P f hTrue := by
  cases q : c f .nl .lf .e with
  | bad k => rw [q] at e; cases e
  | ok v h1 n1 =>
    rw [q] at e
    cases v <;> first
      | (cases (show _ = true from e); exact hook_closed hC q rfl)
      | cases e
theorem hook_true {P : Program} (hm : P.follows .mixedOrders = true) {hk : Nat → Option Hook} (hh : HookOk P hk) {n f : Nat} (e : okT (runP P hk n f .nl .lf .e) = true) : HookAt P f hTrue := by
  cases q : runP P hk n f .nl .lf .e with
  | bad k => rw [q] at e; cases e
  | ok v h1 n1 =>
    rw [q] at e
    cases v <;> first
      | (cases (show _ = true from e); exact hook_closed (run_ok hm hh n) q rfl)
      | cases e
end
end Go.Ev
namespace Go.Proofs.YtkjdclpneaepkaaGreat
open Go.Ev
theorem hooks0 : HookOk Tryz.prog hookF := by
  unfold hookF hookT
  exact hook_add (hook_add (hook_add (hook_add (hook_add (hook_add (hook_add (hook_add (hook_add (hook_add (hook_add (hook_add hook_lf hook_insQ) hook_insE) hook_insR) hook_insS) hook_takeS) hook_takeP) hook_putS) hook_putP) hook_of) hook_sortedS) hook_sortedL) hook_sortedI
end Go.Proofs.YtkjdclpneaepkaaGreat
end

section
open Go
namespace Go.Ev
noncomputable section
def isZ (v : AV) : Bool := match v with | .i k (.ofNat n) => eqK k .i64 && Nat.beq n 0 | _ => false
def isNs (v : AV) : Bool := match v with | .ns => true | _ => false
def isPt (v : AV) (id : Pa) : Bool := match v with | .p i o => eqPa i id && Nat.beq o 0 | _ => false
/-- A new disk's map. -/
def freshM (id : Pa) (h : Hp) : Bool := Option.casesOn (cellOf id 1 h) false fun v => match v with
  | .m m => Option.casesOn (mapOf m h) false fun q => (match q.1 with | [] => Nat.beq q.2 0 | _ => false)
  | _ => false
def freshD (a : AV) (h : Hp) : Bool := match a with
  | .cn (.p id o) (.cn z .nl) => Nat.beq o 0 && isZ z && freshM id h
  | _ => false
def openD (a : AV) (h : Hp) (nx : Pa) : Rv := match a with
  | .cn p _ => .ok (.tp (.cn (.p nx 0) (.cn (.i .i64 (.ofNat 0)) .nl))) (setP (some (newBlk (.cn p (.cn (.i .i64 (.ofNat 0)) (.cn .ns .nl))))) nx h) nx.succ
  | _ => .bad 150
def hOpen (c : CallF) (f : Nat) : Hook := fun a h nx => bif freshD a h then openD a h nx else c f a h nx
def h00 : Hp := setP (some (.mp [] 0)) (.a .x1) (setP (some (.ce (setP (some (.m (.a .x1))) (path 1) .lf) 2 false false)) .e .lf)
def a00 : AV := .cn (.p .e 0) (.cn (.i .i64 (.ofNat 0)) .nl)
def logOk (b : Blk) : Bool := match b with
  | .ce t n rw pl => rw && pl && Nat.beq n 3 && (Option.casesOn (getP (path 0) t) false fun v => isPt v .e) && (Option.casesOn (getP (path 1) t) false isZ) && (Option.casesOn (getP (path 2) t) false isNs)
  | _ => false
def mpOk (b : Blk) : Bool := match b with | .mp es c => (match es with | [] => Nat.beq c 0 | _ => false) | _ => false
def chkD (r : Rv) : Bool := match r with
  | .ok (.tp (.cn (.p k o) (.cn z .nl))) h1 _ => Nat.beq o 0 && isZ z && (!eqPa k .e && !eqPa k (.a .x1)) && (Option.casesOn (getP k h1) false logOk) && (Option.casesOn (getP (.a .x1) h1) false mpOk) && (Option.casesOn (getP .e h1) false fun _ => true)
  | _ => false
theorem isZ_ok {v : AV} (h : isZ v = true) {ρ : Ren} {u : Value} (hv : V ρ v u) : u = .int .i64 0 := by
  unfold isZ at h
  split at h
  · rename_i k n
    obtain ⟨h1, h2⟩ := and_ok h
    cases Nat.eq_of_beq_eq_true h2
    cases k <;> first | (cases h1; done) | exact hv
  · cases h
theorem isNs_ok {v : AV} (h : isNs v = true) : v = .ns := by
  unfold isNs at h
  split at h
  · rfl
  · cases h
theorem isPt_ok {v : AV} {id : Pa} (h : isPt v id = true) : v = .p id 0 := by
  unfold isPt at h
  split at h
  · obtain ⟨h1, h2⟩ := and_ok h; cases eqPa_eq _ _ h1; cases Nat.eq_of_beq_eq_true h2; rfl
  · cases h
theorem optT {α : Type} {o : Option α} {f : α → Bool} (h : (Option.casesOn o false f : Bool) = true) : ∃ x, o = some x ∧ f x = true := by
  cases o with
  | none => cases h
  | some x => exact ⟨x, rfl, h⟩
/-- A new block, that somebody has made. -/
theorem HR.newB {ρ : Ren} {h : Hp} {nx : Pa} {w w' : World} (H : HR ρ h nx w) (gr : Gr w w') {g t : Nat} {b : Blk} (hg : w.heap.size ≤ g) (hb : BR (upd ρ nx (g, t)) b g t w') :
    HR (upd ρ nx (g, t)) (setP (some b) nx h) nx.succ w' ∧ Stp ρ h w (upd ρ nx (g, t)) (setP (some b) nx h) w' := by
  refine ⟨H.fresh (fun id b' t' e e' => ?_) (fun k _ hk => gr.keep k hk) hb, H.ext _, gr.os, gr.tape, gr.output, gr.size, fun k hk _ => gr.keep k hk, fun k o => ?_, fun k o => ?_⟩
  · obtain ⟨g', t, h1, h2⟩ := H.blk id b' e
    rw [e'] at h1; cases h1; have := h2.lt; omega
  · rcases own_set o with e | e
    · exact .inr (by omega)
    · exact .inl e
  · rcases live_set o with e | e
    · exact .inr (by omega)
    · exact .inl e
theorem hopen_at {P : Program} {c : CallF} (hc : CallOk P c) {f : Nat} (e0 : chkD (c f a00 h00 (.a .x2)) = true) : HookAt P f (hOpen c f) := fun args h nx av h' nx' ρ w vs H hv e => by
  unfold hOpen at e
  rcases bif_some e with ⟨hf, e2⟩ | ⟨-, e2⟩
  · replace e := e2
    clear e2
    unfold freshD at hf
    split at hf
    · rename_i id o z
      obtain ⟨v1, r1, rfl, ⟨g, t, hg, rfl⟩, v2, r2, rfl, hz, h0⟩ := hv
      cases (show r2 = [] from h0)
      obtain ⟨f1, f2, f3⟩ := and3 hf
      cases Nat.eq_of_beq_eq_true f1
      cases isZ_ok f2 hz
      have e : Rv.ok (.tp (.cn (.p nx 0) (.cn (.i .i64 (.ofNat 0)) .nl))) (setP (some (newBlk (.cn (.p id 0) (.cn (.i .i64 (.ofNat 0)) (.cn .ns .nl))))) nx h) nx.succ = .ok av h' nx' := e
      obtain ⟨rfl, rfl, rfl⟩ := ok3 e
      unfold freshM at f3
      obtain ⟨x, c1, f3⟩ := optT f3
      have c1' := c1
      obtain ⟨u, c2, c3⟩ := cellOf_ok H c1 hg
      split at f3
      · rename_i m
        obtain ⟨q, c4, f3⟩ := optT f3
        obtain ⟨b, tm, hm, rfl⟩ := c3
        obtain ⟨es, clk⟩ := q
        obtain ⟨ents, c5, c6⟩ := mapOf_ok H c4 hm
        replace f3 : (match (generalizing := false) es with | [] => Nat.beq clk 0 | _ => false) = true := f3
        cases es with
        | cons _ _ => cases f3
        | nil =>
          have f3 : Nat.beq clk 0 = true := f3
          cases Nat.eq_of_beq_eq_true f3
          have c6 : ents.toList = [] := c6
          have c6 : ents = #[] := by simpa using c6
          subst c6
          -- the disk's block
          have hcell : ∃ cs ty fz, w.heap[g]? = some (.cells cs ty fz) ∧ cs.size = t ∧ cs[1]? = some (.map (some b)) := by
            have e1 : (Option.casesOn (getP id h) none fun b => Blk.casesOn b (fun t _ _ _ => getP (path 1) t) (fun _ _ => none) (fun _ _ _ _ => none) (fun _ _ _ _ => none) : Option AV) = some (.m m) := c1'
            cases e2 : getP id h with
            | none => rw [e2] at e1; cases e1
            | some bl =>
              rw [e2] at e1
              cases bl with
              | ce tr n rw' pl =>
                obtain ⟨cs, ty, fz, d1, d2, -⟩ := getP_ce H e2 hg
                exact ⟨cs, ty, fz, d1, d2, by rw [← cell_of d1]; exact c2⟩
              | mp _ _ => cases e1
              | ch _ _ _ _ => cases e1
              | it _ _ _ _ => cases e1
          obtain ⟨cs, ty, fz, d1, d2, d3⟩ := hcell
          have hgb : g ≠ b := fun x => by subst x; rw [d1] at c5; cases c5
          obtain ⟨ρ0, hρ⟩ : ∃ ρ0 : Ren, ρ0 = upd (upd (fun _ => none) .e (g, t)) (.a .x1) (b, tm) := ⟨_, rfl⟩
          have r0 : ρ0 .e = some (g, t) := by rw [hρ, upd_ne _ _ (by intro q; cases q), upd_same]
          have r1 : ρ0 (.a .x1) = some (b, tm) := by rw [hρ, upd_same]
          have hget : ∀ i b', getP i h00 = some b' → (i = .e ∧ b' = .ce (setP (some (.m (.a .x1))) (path 1) .lf) 2 false false) ∨ (i = .a .x1 ∧ b' = .mp [] 0) := fun i b' q => by
            unfold h00 at q
            rcases get_set' (some (Blk.mp [] 0)) i (.a .x1) (setP (some (.ce (setP (some (.m (.a .x1))) (path 1) .lf) 2 false false)) .e .lf) with ⟨k1, k2⟩ | ⟨k1, k2⟩
            · rw [k1] at q; cases q; exact .inr ⟨k2, rfl⟩
            · rw [k1] at q
              rcases get_set' (some (Blk.ce (setP (some (.m (.a .x1))) (path 1) .lf) 2 false false)) i .e .lf with ⟨k3, k4⟩ | ⟨k3, k4⟩
              · rw [k3] at q; cases q; exact .inl ⟨k4, rfl⟩
              · rw [k3, getP_lf] at q; cases q
          have H0 : HR ρ0 h00 (.a .x2) w := by
            refine ⟨fun i p q => ?_, fun i b' q => ?_, fun i i' b1 b2 k t1 t2 q1 q2 q3 q4 => ?_⟩
            · by_cases k1 : i = .e
              · subst k1; decide
              · by_cases k2 : i = .a .x1
                · subst k2; decide
                · rw [hρ, upd_ne _ _ k2, upd_ne _ _ k1] at q; cases q
            · rcases hget i b' q with ⟨rfl, rfl⟩ | ⟨rfl, rfl⟩
              · refine ⟨g, t, r0, cs, ty, fz, d1, d2, by have := (Array.getElem?_eq_some_iff.1 d3).1; omega, fun j v q => ?_, fun q => (by cases q), fun q => (by cases q)⟩
                rcases get_set' (some (AV.m (.a .x1))) (path j) (path 1) .lf with ⟨k1, k2⟩ | ⟨k1, k2⟩
                · rw [k1] at q; cases q
                  have := path_inj k2; subst this
                  exact ⟨by decide, _, d3, b, tm, r1, rfl⟩
                · rw [k1, getP_lf] at q; cases q
              · exact ⟨b, tm, r1, #[], c5, rfl⟩
            · rcases hget i b1 q1 with ⟨rfl, rfl⟩ | ⟨rfl, rfl⟩ <;> rcases hget i' b2 q2 with ⟨rfl, rfl⟩ | ⟨rfl, rfl⟩
              · rfl
              · rw [r0] at q3; rw [r1] at q4; cases q3; cases q4; exact absurd rfl hgb
              · rw [r1] at q3; rw [r0] at q4; cases q3; cases q4; exact absurd rfl hgb
              · rfl
          have hown : ∀ k, k ≠ b → ¬ Own ρ0 h00 k := fun k hk ⟨i, b', s, q1, q2, q3⟩ => by
            rcases hget i b' q1 with ⟨rfl, rfl⟩ | ⟨rfl, rfl⟩
            · cases q2
            · rw [r1] at q3; cases q3; exact hk rfl
          cases er : c f a00 h00 (.a .x2) with
          | bad n => rw [er] at e0; cases e0
          | ok av1 h1 n1 =>
            rw [er] at e0
            unfold chkD at e0
            split at e0
            · rename_i k o z' h1' n1' heq
              cases heq
              obtain ⟨e0, g6⟩ := and_ok e0
              obtain ⟨e0, g5⟩ := and_ok e0
              obtain ⟨e0, g4⟩ := and_ok e0
              obtain ⟨g1, g2, g3⟩ := and3 e0
              obtain ⟨g3, g7⟩ := and_ok g3
              cases Nat.eq_of_beq_eq_true g1
              refine Calls.mono (hc f a00 h00 (.a .x2) _ h1 n1 ρ0 w [.pointer (some ⟨g, 0, none⟩), .int .i64 0] H0 ⟨_, _, rfl, ⟨g, t, r0, rfl⟩, _, _, rfl, rfl, rfl⟩ er).2 fun x w' ⟨ρ', v, j1, j2, j3, j4⟩ => ?_
              have x0 := j4.ext _ _ r0
              have x1 := j4.ext _ _ r1
              obtain ⟨bl, y1, y2⟩ := optT g4
              obtain ⟨bm, y3, y4⟩ := optT g5
              obtain ⟨be, y5, -⟩ := optT g6
              -- nothing that was there has changed
              have gr : Gr w w' := ⟨j4.os, j4.tape, j4.output, j4.size, fun i hi => by
                by_cases hib : i = b
                · subst hib
                  unfold mpOk at y4
                  split at y4
                  · rename_i es' c'
                    split at y4
                    · cases Nat.eq_of_beq_eq_true y4
                      obtain ⟨g', t', z1, ents', z2, z3⟩ := j3.blk _ _ y3
                      rw [x1] at z1; cases z1
                      have z3 : ents'.toList = [] := z3
                      have z3 : ents' = #[] := by simpa using z3
                      subst z3
                      rw [z2, c5]
                    · cases y4
                  · cases y4
                · exact j4.keep i hi (hown i hib)⟩
              obtain ⟨vs, ⟨v1, r, rfl, ⟨g', t', z1, rfl⟩, v2, r', rfl, hz', hr⟩, rfl⟩ := j2
              cases (show r' = [] from hr)
              cases isZ_ok g2 hz'
              have hnew : w.heap.size ≤ g' := by
                rcases j4.live g' ⟨k, bl, t', y1, z1⟩ with ⟨i, b', s, q1, q2⟩ | q
                · rcases hget i b' q1 with ⟨rfl, -⟩ | ⟨rfl, -⟩
                  · rw [r0] at q2; cases q2
                    have := j3.inj _ _ _ _ _ _ _ y1 y5 z1 x0
                    subst this
                    rw [eqPa_refl] at g3; cases g3
                  · rw [r1] at q2; cases q2
                    have := j3.inj _ _ _ _ _ _ _ y1 y3 z1 x1
                    subst this
                    rw [eqPa_refl] at g7; cases g7
                · exact q
              unfold logOk at y2
              split at y2
              · rename_i tr n rw' pl
                obtain ⟨y2, l6⟩ := and_ok y2
                obtain ⟨y2, l5⟩ := and_ok y2
                obtain ⟨y2, l4⟩ := and_ok y2
                obtain ⟨l1, l2, l3⟩ := and3 y2
                cases Nat.eq_of_beq_eq_true l3
                obtain ⟨p0, m0, l4⟩ := optT l4
                obtain ⟨p1, m1, l5⟩ := optT l5
                obtain ⟨p2, m2, l6⟩ := optT l6
                cases isPt_ok l4
                cases isNs_ok l6
                obtain ⟨c', ty', fz', s1, s2, s3, s4, s5, s6⟩ := getP_ce j3 y1 z1
                obtain ⟨-, u0, w0, gg, tt, xx, rfl⟩ := s4 0 _ m0
                rw [x0] at xx; cases xx
                obtain ⟨-, u1, w1, hu1⟩ := s4 1 _ m1
                cases isZ_ok l5 hu1
                obtain ⟨-, u2, w2, hu2⟩ := s4 2 _ m2
                cases (show u2 = _ from hu2)
                have hL : Vs (upd ρ nx (g', t')) (.cn (.p id 0) (.cn (.i .i64 (.ofNat 0)) (.cn .ns .nl))) [.pointer (some ⟨g, 0, none⟩), .int .i64 0, .slice none 0 0] :=
                  ⟨_, _, rfl, ⟨g, t, H.ext (g', t') _ _ hg, rfl⟩, _, _, rfl, rfl, _, _, rfl, rfl, rfl⟩
                have hCR := CR_row hL (c := c') (by
                  have h3 : 3 ≤ c'.size := by omega
                  apply List.ext_getElem?
                  intro j
                  rw [List.getElem?_take]
                  match j with
                  | 0 => simpa using w0
                  | 1 => simpa using w1
                  | 2 => simpa using w2
                  | j + 3 => simp; omega)
                obtain ⟨k1, k2⟩ := H.newB gr hnew (b := newBlk (.cn (.p id 0) (.cn (.i .i64 (.ofNat 0)) (.cn .ns .nl)))) (t := t') (by
                  rw [newBlk_eq, Vs_size _ _ hL]
                  exact ⟨c', ty', fz', s1, s2, s3, hCR, fun _ => s5 l1, fun _ => s6 l2⟩)
                exact ⟨_, _, j1, ⟨_, ⟨_, _, rfl, ⟨g', t', upd_same _ _ _, rfl⟩, _, _, rfl, rfl, rfl⟩, rfl⟩, k1, k2⟩
              · cases y2
            · cases e0
      · cases f3
    · cases hf
  · exact (hc f args h nx av h' nx' ρ w vs H hv e2).2
end
end Go.Ev
end

section
open Go Go.Proofs Go.RowKit
namespace Go.Proofs.YtkjdclpneaepkaaGreat
set_option maxHeartbeats 400000 in
theorem bits_any (s : Nat) (x : UInt8) (w : World) (hs : s < 4294967296) :
    Calls Tryz.prog 427 #[.int .u32 s, .int .u8 (x.toNat : Int)] w fun e w' => e = .returned (.int .u32 (crcByte s x)) ∧ w = w' := by
  have hx := x.toNat_lt
  have h0 := xor_u32 s x.toNat hs (by omega)
  have hb0 := xor_lt32 hs (show x.toNat < 4294967296 by omega)
  have hfin : crcByte s x = crcN 8 (s ^^^ x.toNat) := rfl
  rw [hfin]
  clear hfin
  generalize s ^^^ x.toNat = m at h0 hb0 ⊢
  go_enter Tryz.func427, Tryz.ntmps427
  go_wp2
  go_loop [0, 10] (fun sv i => ∃ k : Nat, k ≤ 8 ∧ i = .int .i64 k ∧ sv = .int .u32 (crcN k m)) (fun _ i => 8 - (intOf i).toNat)
  case atStart => exact ⟨0, Nat.zero_le _, rfl, rfl⟩
  case round =>
    obtain ⟨k, hk, rfl, rfl⟩ := hrel
    by_cases hlt : k < 8
    · have hb := crcN_lt k hb0
      have hn : crcN (k + 1) m = crcStep (crcN k m) := rfl
      have Hn := Lib.hid hn; clear hn
      have ha := and1_u32 (crcN k m) hb
      have hx2 : bits .xor .u32 ((crcN k m : Int) / 2) 2197175160 = ((crcN k m / 2 ^^^ 2197175160 : Nat) : Int) := xor_u32 (crcN k m / 2) 2197175160 (by omega) (by decide)
      generalize hq : crcN k m = q at ha hx2 hb ⊢
      have Hq := Lib.hid hq; clear hq
      by_cases h1 : q % 2 = 1
      · rw [h1] at ha
        have e : crcStep q = (q / 2) ^^^ 2197175160 := by unfold crcStep; rw [if_pos h1]
        have He := Lib.hid e; clear e
        clear h1
        go_wp2
        go_round
        case rel => exact ⟨k + 1, by omega, by go_num, by rw [Hn.out, Hq.out, He.out]⟩
        case measure => simp [intOf]; omega
      · have h2 : q % 2 = 0 := by omega
        rw [h2] at ha
        have e : crcStep q = q / 2 := by unfold crcStep; rw [if_neg h1]
        have He := Lib.hid e; clear e
        clear h1 h2
        go_wp2
        go_round
        case rel => exact ⟨k + 1, by omega, by go_num, by rw [Hn.out, Hq.out, He.out]; rfl⟩
        case measure => simp [intOf]; omega
    · obtain rfl : k = 8 := by omega
      go_wp2
      go_ret
      exact ⟨rfl, rfl⟩

theorem foldl_take_succ (l : List UInt8) (s k : Nat) (h : k < l.length) : (l.take (k + 1)).foldl crcByte s = crcByte ((l.take k).foldl crcByte s) l[k] := by
  rw [List.take_succ_eq_append_getElem h, List.foldl_append]; rfl

theorem bval_ofNat (m : Nat) : bval (UInt8.ofNat m) = .int .u8 ((m : Int) % 256) := by
  simp [bval, UInt8.toNat_ofNat']

set_option maxHeartbeats 400000 in
/-- A slice of bytes that can be read: from ao on, l, with a capacity of cp. -/
def SlB (w : World) (ao : Option Addr) (cp : Nat) (l : List UInt8) : Prop :=
  l.length ≤ cp ∧ cp ≤ maxLen ∧ ∀ i (h : i < l.length), ∃ g off, ao = some ⟨g, off, none⟩ ∧ w.cell? ⟨g, off + i, none⟩ = some (bval l[i])
theorem SlB.new (w : World) (l : List UInt8) (T : TypeId) (fz : Nat × Nat) (h : l.length ≤ maxLen) : SlB (w.alloc (.cells (bvs l).toArray T fz)) (some ⟨w.heap.size, 0, none⟩) l.length l := by
  refine ⟨Nat.le_refl _, h, fun i hi => ⟨_, _, rfl, ?_⟩⟩
  rw [cell_of_heap (heap_new _ _)]
  simp only [bvs, Nat.zero_add, List.getElem?_toArray, List.getElem?_map, List.getElem?_eq_getElem hi, Option.map_some]

/-- Bytes as a text. -/
def bstr (l : List UInt8) : ByteArray := ⟨l.toArray⟩
theorem bstr_size (l : List UInt8) : (bstr l).size = l.length := by simp [bstr, ByteArray.size]
theorem foldl_push_data (l : List UInt8) : ∀ s : ByteArray, ((l.map fun x : UInt8 => (x.toNat : Int)).foldl (fun r n => r.push (UInt8.ofNat n.toNat)) s).data = s.data ++ l.toArray := by
  induction l with
  | nil => intro s; simp
  | cons x l ih => intro s; simp only [List.map_cons, List.foldl_cons]; rw [ih]; simp [ByteArray.push]
theorem run_convert_SlB {P : Program} {w : World} {ao : Option Addr} {cp : Nat} {l : List UInt8} (h : SlB w ao cp l) {src dst e : TypeId}
    (hs : P.underlying src = some (.slice e)) (he : P.underlying e = some (.int .u8)) (hd : P.underlying dst = some .string) :
    (convert src dst (.slice ao l.length cp)).run P w = .ok (.string (bstr l)) w := by
  rw [run_convert_bytes_string w src dst e ao _ _ hs he hd]
  have hfold : (l.map fun x : UInt8 => (x.toNat : Int)).foldl (fun r n => r.push (UInt8.ofNat n.toNat)) ByteArray.empty = bstr l := by
    have := foldl_push_data l ByteArray.empty
    cases hf : (l.map fun x : UInt8 => (x.toNat : Int)).foldl (fun r n => r.push (UInt8.ofNat n.toNat)) ByteArray.empty
    rw [hf] at this
    simp at this
    rw [bstr, this]
  cases ao with
  | none =>
    have h0 : l = [] := by
      cases l with
      | nil => rfl
      | cons x l => obtain ⟨g, off, e, _⟩ := h.2.2 0 (by simp); cases e
    subst h0
    rfl
  | some a =>
    rw [run_bytesToString w a l.length cp (l.map fun x : UInt8 => (x.toNat : Int)), hfold]
    have := run_loadCells_list (P := P) (w := w) a (bvs l) (by
      intro j v hv
      simp only [bvs, List.getElem?_map] at hv
      have hj : j < l.length := by
        rcases Nat.lt_or_ge j l.length with h | h
        · exact h
        · rw [List.getElem?_eq_none h] at hv; cases hv
      obtain ⟨g, off, e, hc⟩ := h.2.2 j hj
      have e' : a = ⟨g, off, none⟩ := by injection e
      subst e'
      rw [List.getElem?_eq_getElem hj] at hv
      simp at hv
      subst hv
      rw [← hc]
      congr 1
      simp [Addr.add])
    rw [bvs_length] at this
    rw [this]
    congr 2
    simp [bvs, bval]

def nameN (n : Nat) : List UInt8 := [108, 111, 103, UInt8.ofNat (48 + n / 100), UInt8.ofNat (48 + n / 10 % 10), UInt8.ofNat (48 + n % 10)]
set_option maxRecDepth 8000 in
set_option maxHeartbeats 1000000 in
theorem sname_any (n : Nat) (w : World) (hn : n ≤ 999) : Calls Tryz.prog 287 #[.int .i64 n] w fun e w' => ∃ s : ByteArray, e = .returned (.string s) ∧ s.data.toList = nameN n ∧ Keep NoF w w' := by
  have h1 : (0 : Int) ≤ n := by omega
  have h2 : (n : Int) ≤ 999 := by omega
  have hb : (bvs [UInt8.ofNat (48 + n / 100), UInt8.ofNat (48 + n / 10 % 10), UInt8.ofNat (48 + n % 10)]).toArray = #[.int .u8 (48 + (n : Int) / 100), .int .u8 (48 + (n : Int) / 10 % 10), .int .u8 (48 + (n : Int) % 10)] := by
    simp only [bvs, List.map_cons, List.map_nil, bval_ofNat]
    congr 1
    congr 1
    · congr 1; omega
    · congr 1
      · congr 1; omega
      · congr 1
        congr 1; omega
  have hs := SlB.new w [UInt8.ofNat (48 + n / 100), UInt8.ofNat (48 + n / 10 % 10), UInt8.ofNat (48 + n % 10)] 5 (0, 0) (by simp [maxLen])
  have hc := run_convert_SlB (P := Tryz.prog) hs (src := 71) (dst := 9) Tryz.underlying71 Tryz.underlying5 Tryz.underlying9
  rw [hb] at hc
  simp only [List.length_cons, List.length_nil, Nat.zero_add, Nat.reduceAdd] at hc
  have HK := Lib.hid ((Keep.refl NoF w).alloc (.cells #[.int .u8 (48 + (n : Int) / 100), .int .u8 (48 + (n : Int) / 10 % 10), .int .u8 (48 + (n : Int) % 10)] 5))
  clear hb hs
  go_enter Tryz.func287, Tryz.ntmps287
  go_wp2_with fail
  go_ret
  refine ⟨_, rfl, ?_, HK.out⟩
  simp [bstr, nameN]
theorem read_miss (p b : Nat) (x : ByteArray) (w : World) (c1 : w.cell? ⟨p, 1, none⟩ = some (.map (some b))) (l1 : (Instr.lookup 123 (.map (some b)) (.string x) false).run Tryz.prog w = .ok (.pointer none) w) :
    Calls Tryz.prog 199 #[.pointer (some ⟨p, 0, none⟩), .string x] w fun e w' => e = .returned (.tuple #[.slice none 0 0, .bool false]) ∧ w' = w := by
  have G : Hid (Calls Tryz.prog 286 #[.pointer (some ⟨p, 0, none⟩), .string x] w fun e w' => e = .returned (.pointer none) ∧ w' = w) := by
    refine Lib.hid ?_
    go_enter Tryz.func286, Tryz.ntmps286
    go_wp2_with fail
    go_ret
    exact ⟨rfl, rfl⟩
  clear c1 l1
  go_enter Tryz.func199, Tryz.ntmps199
  go_wp2_with fail
  refine G.out.mono ?_
  rintro e w' ⟨rfl, hw⟩
  obtain rfl : w = w' := hw.symm
  go_wp2_with fail
  go_ret2
  exact ⟨rfl, rfl⟩
end Go.Proofs.YtkjdclpneaepkaaGreat
namespace Go.Ev
noncomputable section
def crcB1 (s : Nat) : Nat := bif Nat.beq (Nat.mod s 2) 1 then Nat.xor (Nat.div s 2) 2197175160 else Nat.div s 2
def crcB (k : Nat) : Nat → Nat := Nat.rec (fun s => s) (fun _ ih s => force (crcB1 s) ih) k
/-- One byte's step of a sum. -/
def hBits : Hook := fun a h nx => match a with
  | .cn (.i ks (.ofNat s)) (.cn (.i kx (.ofNat x)) .nl) => bif eqK ks .u32 && eqK kx .u8 && Nat.blt s 4294967296 && Nat.blt x 256 then force (crcB 8 (Nat.xor s x)) fun r => .ok (.i .u32 (.ofNat r)) h nx else .bad 151
  | _ => .bad 151
/-- A segment's name. -/
def hName : Hook := fun a h nx => match a with
  | .cn (.i k (.ofNat n)) .nl => bif eqK k .i64 && Nat.ble n 999 then force (48 + n / 100) fun x => force (48 + n / 10 % 10) fun y => force (48 + n % 10) fun z => .ok (.s [108, 111, 103, x, y, z]) h nx else .bad 152
  | _ => .bad 152
def isMiss (m : AV) (l : List Nat) (h : Hp) : Bool := match m with
  | .m id => Option.casesOn (mapOf id h) false fun q => Option.casesOn (findM (.s l) q.1) false fun r => Option.casesOn r true fun _ => false
  | _ => false
def missD (a : AV) (h : Hp) : Bool := match a with
  | .cn (.p id o) (.cn (.s l) .nl) => Nat.beq o 0 && Option.casesOn (cellOf id 1 h) false fun m => isMiss m l h
  | _ => false
/-- A file that is not there. -/
def hRead (c : CallF) (f : Nat) : Hook := fun a h nx => bif missD a h then .ok (.tp (.cn .ns (.cn (.b false) .nl))) h nx else c f a h nx
end
end Go.Ev
namespace Go.Proofs.YtkjdclpneaepkaaGreat
open Go.Ev
theorem crcB1_eq (s : Nat) : crcB1 s = crcStep s := by
  unfold crcB1 crcStep
  by_cases h : s % 2 = 1
  · have : Nat.beq (Nat.mod s 2) 1 = true := by show Nat.beq (s % 2) 1 = true; rw [h]; rfl
    rw [this, if_pos h]; rfl
  · have : Nat.beq (Nat.mod s 2) 1 = false := Bool.eq_false_iff.2 fun q => h (Nat.eq_of_beq_eq_true q)
    rw [this, if_neg h]; rfl
theorem crcN_step : ∀ (k s : Nat), crcN k (crcStep s) = crcN (k + 1) s
  | 0, _ => rfl
  | k + 1, s => by show crcStep (crcN k (crcStep s)) = crcStep (crcN (k + 1) s); rw [crcN_step k s]
theorem crcB_eq : ∀ (k s : Nat), crcB k s = crcN k s
  | 0, _ => rfl
  | k + 1, s => by
    show force (crcB1 s) (crcB k) = _
    rw [force_eq, crcB_eq k, crcB1_eq, crcN_step]
theorem Keep.gr' {w w' : World} (k : Keep NoF w w') : Gr w w' := ⟨k.os, k.tape, k.output, k.size, fun g hg => k.block g hg (fun f => f)⟩
theorem eqK_eq {a b : IntKind} (h : eqK a b = true) : a = b := by cases a <;> cases b <;> first | rfl | cases h
theorem hook_bits : HookAt Tryz.prog 427 hBits := fun args h nx av h' nx' ρ w vs H hv e => by
  unfold hBits at e
  split at e
  · rename_i ks s kx x
    obtain ⟨v1, r1, rfl, h1, v2, r2, rfl, h2, h0⟩ := hv
    cases (show r2 = [] from h0)
    replace ⟨k1, e⟩ := cut1 e (noBad _)
    obtain ⟨q1, q2, q3, q4⟩ := and4 k1
    cases eqK_eq q1; cases eqK_eq q2
    have q3 : s < 4294967296 := by simpa using q3
    have q4 : x < 256 := by simpa using q4
    cases (show v1 = .int .u32 (Int.ofNat s) from h1)
    cases (show v2 = .int .u8 (Int.ofNat x) from h2)
    rw [force_eq] at e
    obtain ⟨rfl, rfl, rfl⟩ := ok3 e
    have hx : (UInt8.ofNat x).toNat = x := by rw [UInt8.toNat_ofNat']; omega
    have := bits_any s (UInt8.ofNat x) w q3
    rw [hx] at this
    refine Calls.mono this fun y w' ⟨j1, j2⟩ => ?_
    subst j2
    refine ⟨ρ, _, j1, ?_, H, Stp.refl _ _ _⟩
    show _ = Value.int .u32 (Int.ofNat (crcB 8 (Nat.xor s x)))
    rw [crcB_eq]; unfold crcByte; rw [hx]; rfl
  · cases e
theorem hook_name : HookAt Tryz.prog 287 hName := fun args h nx av h' nx' ρ w vs H hv e => by
  unfold hName at e
  split at e
  · rename_i k n
    obtain ⟨v1, r1, rfl, h1, h0⟩ := hv
    cases (show r1 = [] from h0)
    replace ⟨k1, e⟩ := cut1 e (noBad _)
    obtain ⟨q1, q2⟩ := and_ok k1
    cases eqK_eq q1
    have q2 := Nat.le_of_ble_eq_true q2
    cases (show v1 = .int .i64 (Int.ofNat n) from h1)
    simp only [force_eq] at e
    obtain ⟨rfl, rfl, rfl⟩ := ok3 e
    refine Calls.mono (sname_any n w q2) fun y w' ⟨s, j1, j2, j3⟩ => ?_
    obtain ⟨z1, z2⟩ := H.gr (Keep.gr' j3)
    refine ⟨ρ, _, j1, ?_, z1, z2⟩
    show Value.string s = Value.string (bsOf _)
    congr 1
    have : s.data = (bsOf [108, 111, 103, 48 + n / 100, 48 + n / 10 % 10, 48 + n % 10]).data := by
      apply Array.toList_inj.1
      rw [j2]; rfl
    cases s; simp only at this; rw [this]
  · cases e
theorem hook_read {c : CallF} (hc : CallOk Tryz.prog c) : HookAt Tryz.prog 199 (hRead c 199) := fun args h nx av h' nx' ρ w vs H hv e => by
  unfold hRead at e
  rcases bif_some e with ⟨hm, e2⟩ | ⟨-, e2⟩
  · obtain ⟨rfl, rfl, rfl⟩ := ok3 e2
    clear e
    unfold missD at hm
    split at hm
    · rename_i id o l
      obtain ⟨v1, r1, rfl, ⟨g, t, hg, rfl⟩, v2, r2, rfl, hl, h0⟩ := hv
      cases (show r2 = [] from h0)
      cases (show v2 = _ from hl)
      obtain ⟨m1, m2⟩ := and_ok hm
      cases Nat.eq_of_beq_eq_true m1
      obtain ⟨x, c1, m2⟩ := optT m2
      obtain ⟨u, c2, c3⟩ := cellOf_ok H c1 hg
      unfold isMiss at m2
      split at m2
      · rename_i m
        obtain ⟨b, tm, hb, rfl⟩ := c3
        obtain ⟨q, c4, m2⟩ := optT m2
        obtain ⟨r, c5, m2⟩ := optT m2
        obtain ⟨ents, c6, c7⟩ := mapOf_ok H c4 hb
        cases r with
        | some _ => cases m2
        | none =>
          have hkk : isKey (kkT Tryz.prog 9) (.s l) = true := by kernel_rfl
          obtain ⟨r', f1, f2⟩ := findKey_run (t := 9) Tryz.underlying9 hkk hl c7 c5 w
          have f2 : r' = none := f2
          subst f2
          have hck := checkKey_run (kk_ne hkk) ents.isEmpty (.string (bsOf l)) w
          have hob : (getObj b).run Tryz.prog w = .ok (.map ents q.2) w := by simp [getObj, Sem.run, c6]
          obtain ⟨z, hz1, hz2⟩ := zeroV_run (P := Tryz.prog) (t := 351) (zl := .np) (by kernel_rfl) ρ w
          cases (show z = _ from hz2)
          have look : (Instr.lookup 123 (.map (some b)) (.string (bsOf l)) false).run Tryz.prog w = .ok (.pointer none) w := by
            simp [Instr.lookup, underlying_some Tryz.underlying123, hob, hck, f1, hz1]
          refine Calls.mono (read_miss g b (bsOf l) w c2 look) fun y w' ⟨j1, j2⟩ => ?_
          subst j2
          exact ⟨ρ, _, j1, tp2 rfl rfl, H, Stp.refl _ _ _⟩
      · cases m2
    · cases hm
  · exact (hc _ args h nx av h' nx' ρ w vs H hv e2).2
end Go.Proofs.YtkjdclpneaepkaaGreat
end

section
open Go Go.Proofs Go.RowKit
namespace Go.Proofs.YtkjdclpneaepkaaGreat
set_option maxHeartbeats 400000 in
theorem on_bytes (s : Nat) (ao : Option Addr) (cp : Nat) (l : List UInt8) (w : World) (hs : s < 4294967296) (hmx : l.length ≤ 1000000) (hl : ∀ i (h : i < l.length), ∃ g off, ao = some ⟨g, off, none⟩ ∧ w.cell? ⟨g, off + i, none⟩ = some (bval l[i])) :
    Calls Tryz.prog 325 #[.int .u32 s, .slice ao l.length cp] w fun e w' => e = .returned (.int .u32 (crcOn s l)) ∧ w = w' := by
  have h0 : bits .xor .u32 IntKind.u32.max (s : Int) = ((s ^^^ 4294967295 : Nat) : Int) := by rw [Nat.xor_comm]; exact xor_u32 4294967295 s (by decide) hs
  have hm0 := xor_lt32 hs (show 4294967295 < 4294967296 by decide)
  have hfin : crcOn s l = (l.foldl crcByte (s ^^^ 4294967295)) ^^^ 4294967295 := rfl
  rw [hfin]
  clear hfin
  generalize s ^^^ 4294967295 = m at h0 hm0 ⊢
  go_enter Tryz.func325, Tryz.ntmps325
  go_wp2
  go_loop [5, 12] (fun sv i => ∃ k : Nat, k ≤ l.length ∧ i = .int .i64 k ∧ sv = .int .u32 (((l.take k).foldl crcByte m : Nat) : Int)) (fun _ i => l.length - (intOf i).toNat)
  case atStart => exact ⟨0, Nat.zero_le _, rfl, rfl⟩
  case round =>
    obtain ⟨k, hk, rfl, rfl⟩ := hrel
    have hb := crcFold_lt (l.take k) hm0
    by_cases hlt : k < l.length
    · obtain ⟨g, off, rfl, hcell⟩ := hl k hlt
      simp only [bval] at hcell
      have hn := foldl_take_succ l m k hlt
      have Hn := Lib.hid hn; clear hn
      generalize (l.take k).foldl crcByte m = q at hb Hn ⊢
      go_wp2_with (go_at_call 427; refine (bits_any q l[k] _ hb).mono ?_; rintro e w' ⟨rfl, rfl⟩)
      go_round
      case rel => exact ⟨k + 1, by omega, by go_num, by rw [Hn.out]⟩
      case measure => simp [intOf]; omega
    · obtain hk2 : k = l.length := by omega
      have ht : l.take k = l := by rw [hk2]; exact List.take_length
      have h1 : bits .xor .u32 IntKind.u32.max (((l.take k).foldl crcByte m : Nat) : Int) = (((l.foldl crcByte m) ^^^ 4294967295 : Nat) : Int) := by
        rw [ht] at hb ⊢; rw [Nat.xor_comm]; exact xor_u32 4294967295 _ (by decide) hb
      clear hk2 ht
      go_wp2
      go_ret
      exact ⟨rfl, rfl⟩
end Go.Proofs.YtkjdclpneaepkaaGreat
namespace Go.Ev
noncomputable section
def crc1 (s : Nat) : Nat := Nat.xor (Nat.div s 2) (Nat.mul 2197175160 (Nat.mod s 2))
def crcM (k : Nat) : Nat → Nat := Nat.rec (motive := fun _ => Nat → Nat) (fun s => s) (fun _ ih s => force (crc1 s) ih) k
def byK (v : AV) : (Nat → Rv) → Rv := AV.rec (motive := fun _ => (Nat → Rv) → Rv) (fun _ => .bad 153) (fun _ _ _ _ _ => .bad 153) (fun _ _ => .bad 153) (fun k n f => Bool.rec (motive := fun _ => Rv) (.bad 153) (Int.rec (motive := fun _ => Rv) (fun m => Bool.rec (motive := fun _ => Rv) (.bad 153) (f m) (Nat.ble m 255)) (fun _ => .bad 153) n) (eqK k .u8)) (fun _ _ => .bad 153) (fun _ => .bad 153) (fun _ _ _ => .bad 153) (fun _ => .bad 153) (fun _ => .bad 153) (fun _ _ _ _ _ => .bad 153) (fun _ _ _ _ _ => .bad 153) (fun _ => .bad 153) (fun _ _ => .bad 153) (fun _ => .bad 153) (fun _ _ => .bad 153) (fun _ => .bad 153) (fun _ _ _ _ _ _ => .bad 153) (fun _ _ _ => .bad 153) (fun _ _ _ => .bad 153) (fun _ => .bad 153) (fun _ _ _ _ => .bad 153) v
/-- The sum of bytes in some cells. -/
def crcK (c : AV) : Nat → Nat → (Nat → Rv) → Rv := AV.rec (motive := fun _ => Nat → Nat → (Nat → Rv) → Rv) (fun s _ f => f s) (fun h _ _ ih s n f => Nat.rec (motive := fun _ => Rv) (.bad 153) (fun m _ => byK h fun b => force (crcM 8 (Nat.xor s b)) fun s => ih s m f) n) (fun _ _ _ _ => .bad 153) (fun _ _ _ _ _ => .bad 153) (fun _ _ _ _ => .bad 153) (fun _ _ _ => .bad 153) (fun _ _ _ _ _ => .bad 153) (fun _ _ _ => .bad 153) (fun _ _ _ => .bad 153) (fun _ _ _ _ _ _ _ => .bad 153) (fun _ _ _ _ _ _ _ => .bad 153) (fun _ _ _ => .bad 153) (fun _ _ _ _ => .bad 153) (fun _ _ _ => .bad 153) (fun _ _ _ _ => .bad 153) (fun _ _ _ => .bad 153) (fun _ _ _ _ _ _ _ _ => .bad 153) (fun _ _ _ _ _ => .bad 153) (fun _ _ _ _ _ => .bad 153) (fun _ _ _ => .bad 153) (fun _ _ _ _ _ _ => .bad 153) c
def hOn : Hook := fun a h nx => match a with
  | .cn (.i ks (.ofNat s)) (.cn x .nl) => bif eqK ks .u32 && Nat.blt s 4294967296 then Option.casesOn (sCells 1 x h) (.bad 153) fun c => crcK c (Nat.xor s 4294967295) 1000000 fun s => force (Nat.xor s 4294967295) fun r => .ok (.i .u32 (.ofNat r)) h nx else .bad 153
  | _ => .bad 153
end
end Go.Ev
namespace Go.Proofs.YtkjdclpneaepkaaGreat
open Go.Ev
theorem crc1_eq (s : Nat) : crc1 s = crcStep s := by
  unfold crc1 crcStep
  show (s / 2) ^^^ (2197175160 * (s % 2)) = _
  by_cases h : s % 2 = 1
  · rw [h, if_pos rfl]
  · rw [if_neg h, show s % 2 = 0 by omega]; simp
theorem crcM_eq : ∀ (k s : Nat), crcM k s = crcN k s
  | 0, _ => rfl
  | k + 1, s => by
    show crcM k (crc1 s) = _
    rw [crcM_eq k, crc1_eq, crcN_step]
theorem byK_ok (v : AV) (f : Nat → Rv) : (∃ n, byK v f = .bad n) ∨ ∃ b : UInt8, v = .i .u8 (.ofNat b.toNat) ∧ byK v f = f b.toNat := by
  cases v <;> first | exact .inl ⟨_, rfl⟩ | skip
  rename_i k n
  show (∃ m, (Bool.rec (motive := fun _ => Rv) (.bad 153) (Int.rec (motive := fun _ => Rv) (fun m => Bool.rec (motive := fun _ => Rv) (.bad 153) (f m) (Nat.ble m 255)) (fun _ => .bad 153) n) (eqK k .u8)) = .bad m) ∨ ∃ b : UInt8, AV.i k n = .i .u8 (.ofNat b.toNat) ∧ (Bool.rec (motive := fun _ => Rv) (.bad 153) (Int.rec (motive := fun _ => Rv) (fun m => Bool.rec (motive := fun _ => Rv) (.bad 153) (f m) (Nat.ble m 255)) (fun _ => .bad 153) n) (eqK k .u8)) = f b.toNat
  cases q : eqK k .u8 with
  | false => exact .inl ⟨_, rfl⟩
  | true =>
    cases eqK_eq q
    cases n with
    | negSucc n => exact .inl ⟨_, rfl⟩
    | ofNat m =>
      cases q2 : Nat.ble m 255 with
      | false => exact .inl ⟨153, by show (Bool.rec (motive := fun _ => Rv) (.bad 153) (f m) (Nat.ble m 255)) = _; rw [q2]⟩
      | true =>
        have hm := Nat.le_of_ble_eq_true q2
        have hb : (UInt8.ofNat m).toNat = m := by rw [UInt8.toNat_ofNat']; omega
        refine .inr ⟨UInt8.ofNat m, by rw [hb], ?_⟩
        rw [hb]
        show (Bool.rec (motive := fun _ => Rv) (.bad 153) (f m) (Nat.ble m 255)) = _
        rw [q2]
theorem crcK_ok : ∀ (c : AV) (s n : Nat) (f : Nat → Rv), (∃ m, crcK c s n f = .bad m) ∨ ∃ l : List UInt8, byA c = some (l.map (·.toNat)) ∧ l.length ≤ n ∧ crcK c s n f = f (l.foldl crcByte s)
  | .nl, s, n, f => .inr ⟨[], rfl, Nat.zero_le _, rfl⟩
  | .cn h t, s, n, f => by
    cases n with
    | zero => exact .inl ⟨153, rfl⟩
    | succ n =>
      show (∃ m, (byK h fun b => crcK t (crcM 8 (Nat.xor s b)) n f) = .bad m) ∨ ∃ l : List UInt8, _ ∧ _ ∧ (byK h fun b => crcK t (crcM 8 (Nat.xor s b)) n f) = _
      rcases byK_ok h fun b => crcK t (crcM 8 (Nat.xor s b)) n f with q | ⟨b, rfl, q⟩
      · exact .inl q
      · rw [q]
        rcases crcK_ok t (crcM 8 (Nat.xor s b.toNat)) n f with q2 | ⟨l, q2, q3, q4⟩
        · exact .inl q2
        · refine .inr ⟨b :: l, ?_, by simp; omega, ?_⟩
          · show (Option.casesOn (byA t) none fun r => some (b.toNat :: r) : Option (List Nat)) = _
            rw [q2]; rfl
          · rw [q4, crcM_eq]; rfl
  | .b _, _, _, _ => .inl ⟨_, rfl⟩ | .i _ _, _, _, _ => .inl ⟨_, rfl⟩ | .s _, _, _, _ => .inl ⟨_, rfl⟩ | .np, _, _, _ => .inl ⟨_, rfl⟩ | .p _ _, _, _, _ => .inl ⟨_, rfl⟩
  | .ns, _, _, _ => .inl ⟨_, rfl⟩ | .se, _, _, _ => .inl ⟨_, rfl⟩ | .sl _ _ _ _, _, _, _ => .inl ⟨_, rfl⟩ | .so _ _ _ _, _, _, _ => .inl ⟨_, rfl⟩ | .nm, _, _, _ => .inl ⟨_, rfl⟩ | .m _, _, _, _ => .inl ⟨_, rfl⟩
  | .nc, _, _, _ => .inl ⟨_, rfl⟩ | .c _, _, _, _ => .inl ⟨_, rfl⟩ | .nf, _, _, _ => .inl ⟨_, rfl⟩ | .f _ _ _, _, _, _ => .inl ⟨_, rfl⟩ | .ag _, _, _, _ => .inl ⟨_, rfl⟩ | .tp _, _, _, _ => .inl ⟨_, rfl⟩ | .uk, _, _, _ => .inl ⟨_, rfl⟩ | .y _ _ _, _, _, _ => .inl ⟨_, rfl⟩
theorem hook_on : HookAt Tryz.prog 325 hOn := fun args h nx av h' nx' ρ w vs H hv e => by
  unfold hOn at e
  split at e
  · rename_i ks s x
    obtain ⟨v1, r1, rfl, h1, v2, r2, rfl, h2, h0⟩ := hv
    cases (show r2 = [] from h0)
    replace ⟨k1, e⟩ := cut1 e (noBad _)
    obtain ⟨q1, q2⟩ := and_ok k1
    cases eqK_eq q1
    have q2 : s < 4294967296 := by simpa using q2
    cases (show v1 = .int .u32 (Int.ofNat s) from h1)
    cases e1 : sCells 1 x h with
    | none => rw [e1] at e; cases e
    | some c =>
      rw [e1] at e
      replace e : (crcK c (Nat.xor s 4294967295) 1000000 fun s => force (Nat.xor s 4294967295) fun r => .ok (.i .u32 (.ofNat r)) h nx) = Rv.ok av h' nx' := e
      rcases crcK_ok c (Nat.xor s 4294967295) 1000000 fun s => force (Nat.xor s 4294967295) fun r => .ok (.i .u32 (.ofNat r)) h nx with ⟨m, q⟩ | ⟨l, q3, q4, q5⟩
      · rw [q] at e; cases e
      · rw [q5, force_eq] at e
        obtain ⟨rfl, rfl, rfl⟩ := ok3 e
        obtain ⟨b, n, cp, us, k1, k2, k3, k4⟩ := sCells_get H h2 e1
        have k5 := byA_bytes c us k2 _ q3
        subst k1
        have hn : n = l.length := by rw [k5] at k3; simpa using k3.symm
        subst hn
        refine Calls.mono (on_bytes s b cp l w q2 q4 fun i hi => ?_) fun y w' ⟨j1, j2⟩ => ?_
        · cases b with
          | none => have k4 : l.length = 0 := k4; omega
          | some ad =>
            have k4 : ∀ j u, us[j]? = some u → w.cell? (ad.add j) = some u := k4
            have hu : us[i]? = some (bval l[i]) := by rw [k5]; simp [List.getElem?_eq_getElem hi, bval]
            have hc := k4 i _ hu
            have hpos : 0 < l.length := by omega
            have h0 : us[0]? = some (bval (l[0]'hpos)) := by rw [k5]; simp [List.getElem?_eq_getElem hpos, bval]
            have hp := k4 0 _ h0
            obtain ⟨g, off, sp⟩ := ad
            cases sp with
            | none =>
              refine ⟨g, off, rfl, ?_⟩
              by_cases hi0 : i = 0
              · subst hi0; simpa [Addr.add] using hc
              · simpa [Addr.add, hi0] using hc
            | some s' =>
              exfalso
              simp only [Addr.add, if_true, World.cell?] at hp
              split at hp
              · simp [bval] at hp
              · cases hp
        · subst j2
          exact ⟨ρ, _, j1, rfl, H, Stp.refl _ _ _⟩
  · cases e
end Go.Proofs.YtkjdclpneaepkaaGreat
end
