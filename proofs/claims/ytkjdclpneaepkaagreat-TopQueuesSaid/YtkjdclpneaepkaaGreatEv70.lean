/- A quick way of byt.Out.wide: the bytes of a number, behind a writer's bytes. -/
import Derived.Test.YtkjdclpneaepkaaGreatEvQ3
import Derived.Test.YtkjdclpneaepkaaGreatEvP4
set_option linter.unusedVariables false
open Go Go.Proofs Go.RowKit
namespace Go.Ev
noncomputable section
def wl (id : Pa) (j : Nat) : Nat → Hp → Pa → Rc := Nat.rec (motive := fun _ => Nat → Hp → Pa → Rc) (fun _ h nx => .nx .lf h nx)
  (fun _ ih n h nx => xLd (.p id 0) h nx fun v h nx => force (Nat.mod n 256) fun b => xApp2 1 v (.cn (.i .u8 (.ofNat b)) .nl) 1 h nx fun v h nx => xSt1 (.p id 0) v h nx fun _ h nx => force (Nat.div n 256) fun n => ih n h nx) j
def natK (kd : IntKind) (v : AV) (k : Nat → Rv) : Rv := AV.rec (motive := fun _ => (Nat → Rv) → Rv) (fun _ => .bad 153) (fun _ _ _ _ _ => .bad 153) (fun _ _ => .bad 153) (fun kk n f => Bool.rec (motive := fun _ => Rv) (.bad 153) (Int.rec (motive := fun _ => Rv) (fun m => f m) (fun _ => .bad 153) n) (eqK kk kd)) (fun _ _ => .bad 153) (fun _ => .bad 153) (fun _ _ _ => .bad 153) (fun _ => .bad 153) (fun _ => .bad 153) (fun _ _ _ _ _ => .bad 153) (fun _ _ _ _ _ => .bad 153) (fun _ => .bad 153) (fun _ _ => .bad 153) (fun _ => .bad 153) (fun _ _ => .bad 153) (fun _ => .bad 153) (fun _ _ _ _ _ _ => .bad 153) (fun _ _ _ => .bad 153) (fun _ _ _ => .bad 153) (fun _ => .bad 153) (fun _ _ _ _ => .bad 153) v k
def ptrK (v : AV) (k : Pa → Rv) : Rv := AV.rec (motive := fun _ => (Pa → Rv) → Rv) (fun _ => .bad 153) (fun _ _ _ _ _ => .bad 153) (fun _ _ => .bad 153) (fun _ _ _ => .bad 153) (fun _ _ => .bad 153) (fun _ => .bad 153) (fun p off f => Nat.rec (motive := fun _ => Rv) (f p) (fun _ _ => .bad 153) off) (fun _ => .bad 153) (fun _ => .bad 153) (fun _ _ _ _ _ => .bad 153) (fun _ _ _ _ _ => .bad 153) (fun _ => .bad 153) (fun _ _ => .bad 153) (fun _ => .bad 153) (fun _ _ => .bad 153) (fun _ => .bad 153) (fun _ _ _ _ _ _ => .bad 153) (fun _ _ _ => .bad 153) (fun _ _ _ => .bad 153) (fun _ => .bad 153) (fun _ _ _ _ => .bad 153) v k
def cnK (v : AV) (k : AV → AV → Rv) : Rv := AV.rec (motive := fun _ => (AV → AV → Rv) → Rv) (fun _ => .bad 153) (fun x y _ _ f => f x y) (fun _ _ => .bad 153) (fun _ _ _ => .bad 153) (fun _ _ => .bad 153) (fun _ => .bad 153) (fun _ _ _ => .bad 153) (fun _ => .bad 153) (fun _ => .bad 153) (fun _ _ _ _ _ => .bad 153) (fun _ _ _ _ _ => .bad 153) (fun _ => .bad 153) (fun _ _ => .bad 153) (fun _ => .bad 153) (fun _ _ => .bad 153) (fun _ => .bad 153) (fun _ _ _ _ _ _ => .bad 153) (fun _ _ _ => .bad 153) (fun _ _ _ => .bad 153) (fun _ => .bad 153) (fun _ _ _ _ => .bad 153) v k
def nlK (v : AV) (r : Rv) : Rv := AV.rec (motive := fun _ => Rv → Rv) (fun r => r) (fun _ _ _ _ _ => .bad 153) (fun _ _ => .bad 153) (fun _ _ _ => .bad 153) (fun _ _ => .bad 153) (fun _ => .bad 153) (fun _ _ _ => .bad 153) (fun _ => .bad 153) (fun _ => .bad 153) (fun _ _ _ _ _ => .bad 153) (fun _ _ _ _ _ => .bad 153) (fun _ => .bad 153) (fun _ _ => .bad 153) (fun _ => .bad 153) (fun _ _ => .bad 153) (fun _ => .bad 153) (fun _ _ _ _ _ _ => .bad 153) (fun _ _ _ => .bad 153) (fun _ _ _ => .bad 153) (fun _ => .bad 153) (fun _ _ _ _ => .bad 153) v r
def rcV (r : Rc) : Rv := Rc.rec (motive := fun _ => Rv) (fun n => .bad n) (fun _ h nx => .ok (.tp .nl) h nx) (fun _ _ _ _ => .bad 153) (fun _ _ _ => .bad 153) r
def hWide : Hook := fun a h nx => cnK a fun p a => ptrK p fun id => cnK a fun n a => natK .u64 n fun n => cnK a fun k a => natK .i64 k fun k => nlK a (Bool.rec (motive := fun _ => Rv) (.bad 153) (rcV (wl id k n h nx)) (Nat.blt n 18446744073709551616 && Nat.ble k 8))
end
theorem cnK_ok {v : AV} {k : AV → AV → Rv} {av : AV} {h : Hp} {nx : Pa} (e : cnK v k = .ok av h nx) : ∃ x y, v = .cn x y ∧ k x y = .ok av h nx := by
  cases v <;> first | exact ⟨_, _, rfl, e⟩ | cases e
theorem nlK_ok {v : AV} {r : Rv} {av : AV} {h : Hp} {nx : Pa} (e : nlK v r = .ok av h nx) : v = .nl ∧ r = .ok av h nx := by
  cases v <;> first | exact ⟨rfl, e⟩ | cases e
theorem ptrK_ok {v : AV} {k : Pa → Rv} {av : AV} {h : Hp} {nx : Pa} (e : ptrK v k = .ok av h nx) : ∃ id, v = .p id 0 ∧ k id = .ok av h nx := by
  cases v <;> first | cases e; done | skip
  rename_i p off
  cases off with
  | zero => exact ⟨p, rfl, e⟩
  | succ n => cases e
theorem natK_ok {kd : IntKind} {v : AV} {k : Nat → Rv} {av : AV} {h : Hp} {nx : Pa} (e : natK kd v k = .ok av h nx) : ∃ n, v = .i kd (.ofNat n) ∧ k n = .ok av h nx := by
  cases v <;> first | cases e; done | skip
  rename_i kk n
  cases q : eqK kk kd with
  | false =>
    have e : (Bool.rec (motive := fun _ => Rv) (.bad 153) (Int.rec (motive := fun _ => Rv) (fun m => k m) (fun _ => .bad 153) n) (eqK kk kd)) = .ok av h nx := e
    rw [q] at e; cases e
  | true =>
    have e : (Bool.rec (motive := fun _ => Rv) (.bad 153) (Int.rec (motive := fun _ => Rv) (fun m => k m) (fun _ => .bad 153) n) (eqK kk kd)) = .ok av h nx := e
    rw [q] at e
    have e : (Int.rec (motive := fun _ => Rv) (fun m => k m) (fun _ => .bad 153) n : Rv) = .ok av h nx := e
    have hk : kk = kd := by cases kk <;> cases kd <;> first | rfl | cases q
    rw [hk]
    cases n with
    | ofNat m => exact ⟨m, rfl, e⟩
    | negSucc m => cases e
theorem rcV_ok {r : Rc} {av : AV} {h : Hp} {nx : Pa} (e : rcV r = .ok av h nx) : av = .tp .nl ∧ ∃ t, r = .nx t h nx := by
  cases r with
  | nx t h' n' => obtain ⟨rfl, rfl, rfl⟩ := ok3 (show Rv.ok (.tp .nl) h' n' = .ok av h nx from e); exact ⟨rfl, t, rfl⟩
  | bad n => cases e
  | ex id t h n => cases e
  | rt t h n => cases e
theorem kR_nx {k : KV} {r : Rv} {t : T AV} {h : Hp} {nx : Pa} {x : Rc} (hx : Ok1 x (kR k r)) (e : x = .nx t h nx) : ∃ v h1 n1, r = .ok v h1 n1 ∧ k v h1 n1 = .nx t h nx := by
  rcases hx with ⟨n, q⟩ | q
  · rw [q] at e; cases e
  · rw [q] at e
    cases r with
    | bad n => cases e
    | ok v h1 n1 => exact ⟨v, h1, n1, rfl, e⟩
theorem wl_succ {id : Pa} {j n : Nat} {h : Hp} {nx : Pa} {T : T AV} {h' : Hp} {nx' : Pa} (e : wl id (j + 1) n h nx = .nx T h' nx') : ∃ v h0 n0 av h1 n1 u h2 n2, oLd (.p id 0) h nx = .ok v h0 n0 ∧ oApp2 1 v (.cn (.i .u8 (.ofNat (n % 256))) .nl, 1) h0 n0 = .ok av h1 n1 ∧ oSt 1 (.p id 0) av h1 n1 = .ok u h2 n2 ∧ wl id j (n / 256) h2 n2 = .nx T h' nx' := by
  have e : xLd (.p id 0) h nx (fun v h nx => force (Nat.mod n 256) fun b => xApp2 1 v (.cn (.i .u8 (.ofNat b)) .nl) 1 h nx fun v h nx => xSt1 (.p id 0) v h nx fun _ h nx => force (Nat.div n 256) fun n => wl id j n h nx) = .nx T h' nx' := e
  obtain ⟨v, h0, n0, e1, e⟩ := kR_nx (xLd_ok _ _ _ _) e
  rw [force_eq] at e
  obtain ⟨av, h1, n1, e2, e⟩ := kR_nx (xApp2_ok _ _ _ _ _ _ _) e
  obtain ⟨u, h2, n2, e3, e⟩ := kR_nx (xSt1_ok _ _ _ _ _) e
  rw [force_eq] at e
  exact ⟨v, h0, n0, av, h1, n1, u, h2, n2, e1, e2, e3, e⟩
end Go.Ev
namespace Go.Proofs.YtkjdclpneaepkaaGreat
open Go.Ev
theorem infoW : (Tryz.prog.info? 5).map (fun i => (i.zero, i.size, i.bytes)) = some (some (.int .u8 0), 1, 1) := by kernel_rfl
/-- In the walk: an append, as the evaluator says. -/
theorem wpl_app2 {ops : Array Oper} {rest : List Oper} {o : Oper} {a : Act} {Q : Exit → Act → World → Prop} {w : World} {s x : Operand} (hgd : o.guard = none)
    (ho : o.op = .call { callee := .builtin .append, args := #[s, x], argTypes := #[71, 71] }) {ρ : Ren} {h : Hp} {nx : Pa} (H : HR ρ h nx w) {v l av : AV} {xv yv : Value} {new : List Value} {n : Nat} (hs : a.eval s = xv) (hx : V ρ v xv) (hy : a.eval x = yv)
    (hS : Go.Ev.Src Tryz.prog 1 #[71, 71] yv (.int .u8 0) n new w) (hl : Vs ρ l new) {h' : Hp} {nx' : Pa} (e : oApp2 1 v (l, n) h nx = .ok av h' nx')
    (k : ∀ ρ' u w', V ρ' av u → HR ρ' h' nx' w' → Stp ρ h w ρ' h' w' → wpList Tryz.prog ops Q rest (a.put o.dst u) w') : wpList Tryz.prog ops Q (o :: rest) a w := by
  have hi := infoW
  cases q : Tryz.prog.info? 5 with
  | none => rw [q] at hi; cases hi
  | some i =>
    rw [q] at hi
    simp only [Option.map_some, Option.some.injEq, Prod.mk.injEq] at hi
    obtain ⟨z1, z2, z3⟩ := hi
    rw [← z2] at hS e
    obtain ⟨ρ', u, w', r1, r2, r3, r4⟩ := app2_run (ty := o.type) (tt := #[71, 71]) (t := 71) (e := 5) (i := i) (z := .int .u8 0) rfl Tryz.underlying71 q z1 (by rw [z2]; rfl) (by omega) (by omega) (by omega) H hx hS hl e
    obtain ⟨cs, hr⟩ := run_blt (P := Tryz.prog) ho rfl a w
    refine wpList_plain hgd fun _ hK => Yld.wp (v := u) (w1 := w') (Or.inl ?_) (hK _ _ (k ρ' u w' r2 r3 r4))
    rw [hr]
    simp only [List.map_toArray, List.map_cons, List.map_nil, hs, hy]
    simp [builtin, r1, Result.andThen]
theorem HR.keepW {ρ : Ren} {h : Hp} {nx : Pa} {w w' : World} (H : HR ρ h nx w) (hw : ∀ g, g < w.heap.size → w'.heap[g]? = w.heap[g]?) : HR ρ h nx w' :=
  ⟨H.dom, fun id b q => (by obtain ⟨g, t, q1, q2⟩ := H.blk id b q; exact ⟨g, t, q1, BR_mono (Ext.refl ρ) (hw g q2.lt) q2⟩), H.inj⟩
theorem alloc_get (w : World) (o : Obj) (g : Nat) (hg : g < w.heap.size) : (w.alloc o).heap[g]? = w.heap[g]? := by
  show (w.heap.push o)[g]? = _
  rw [Array.getElem?_push_lt hg, Array.getElem?_eq_getElem hg]
theorem Stp.alloc (ρ : Ren) (h : Hp) (w : World) (o : Obj) : Stp ρ h w ρ h (w.alloc o) := ⟨Ext.refl ρ, rfl, rfl, rfl, by show _ ≤ (w.heap.push o).size; simp, fun g hg _ => alloc_get w o g hg, fun _ q => .inl q, fun _ q => .inl q⟩
theorem srcOne {w : World} {b : Nat} {u : Value} {T : TypeId} {fz : Nat × Nat} (hb : w.heap[b]? = some (.cells #[u] T fz)) : Go.Ev.Src Tryz.prog 1 #[71, 71] (.slice (some ⟨b, 0, none⟩) 1 1) (.int .u8 0) 1 [u] w :=
  ⟨rfl, 71, _, rfl, Tryz.underlying71, .inl ⟨fun k q => (by cases q), fun W hW => ⟨by simp [Builtin.lenOf], firstOld (len := 1) (es := 1) hb (by simp) W hW⟩⟩⟩
theorem st_run {a : Act} {w : World} {ps : String} {r : Array Edge} {x y : Operand} {ρ : Ren} {h : Hp} {nx : Pa} (H : HR ρ h nx w) {id : Pa} {v u : AV} {h' : Hp} {nx' : Pa} {tt : TypeId} (hx : V ρ (.p id 0) (a.eval x)) (hy : V ρ v (a.eval y)) (e : oSt 1 (.p id 0) v h nx = .ok u h' nx') :
    ∃ ρ' w', Yld Tryz.prog ⟨none, .store 71 x y, tt, ps, r, none⟩ a w undef w' ∧ HR ρ' h' nx' w' ∧ Stp ρ h w ρ' h' w' := by
  dsimp only [oSt] at e
  obtain ⟨g, t', hg, hx⟩ := hx
  cases e1 : getP id h with
  | none => rw [e1] at e; cases e
  | some b =>
    rw [e1] at e
    cases b with
    | ce tr n rw' pl =>
      replace ⟨q, e⟩ := cut1 e (noBad _)
      obtain ⟨rfl, q2, q3, q4⟩ := and4 q
      obtain ⟨rfl, rfl, rfl⟩ := ok3 e
      have hc := V_cells _ _ hy
      have q3 := Nat.eq_of_beq_eq_true q3
      have q4 := Nat.le_of_ble_eq_true q4
      obtain ⟨c, ty, fz, h1, h2, h3, -⟩ := getP_ce H e1 hg
      rw [Vs_size _ _ hc] at q3
      obtain ⟨r1, r2, r3⟩ := H.put (P := Tryz.prog) (off := 0) e1 hg hc q2 (Nat.le_refl n) h3 (by omega)
      refine ⟨ρ, _, .inr ⟨?_, rfl⟩, r2, r3⟩
      have hi : (Tryz.prog.info? 71).isSome = true := by kernel_rfl
      obtain ⟨i, hi⟩ := Option.isSome_iff_exists.1 hi
      have hsz : szT Tryz.prog 71 = 1 := by kernel_rfl
      have q5 : (a.eval y).cells.size = szT Tryz.prog 71 := by rw [hsz, ← Array.length_toList]; exact q3
      simp [execOp, Instr.storeAt, hx, Instr.sureAddr, storeVar, sizeOf_run hi, q5, r1]
    | mp _ _ => cases e
    | ch _ _ _ _ => cases e
    | it _ _ _ _ => cases e
theorem wpl_st {ops : Array Oper} {rest : List Oper} {o : Oper} {a : Act} {Q : Exit → Act → World → Prop} {w : World} {x y : Operand} (hgd : o.guard = none) (hds : o.dst = none) (ho : o.op = .store 71 x y) {ρ : Ren} {h : Hp} {nx : Pa} (H : HR ρ h nx w) {id : Pa} {v u : AV} {h' : Hp} {nx' : Pa} {xv yv : Value} (ex : a.eval x = xv) (hx : V ρ (.p id 0) xv) (ey : a.eval y = yv) (hy : V ρ v yv) (e : oSt 1 (.p id 0) v h nx = .ok u h' nx')
    (k : ∀ ρ' w', HR ρ' h' nx' w' → Stp ρ h w ρ' h' w' → wpList Tryz.prog ops Q rest a w') : wpList Tryz.prog ops Q (o :: rest) a w := by
  obtain ⟨ds, op, tt, ps, r, gd⟩ := o
  cases hgd; cases hds; cases ho; subst ex ey
  obtain ⟨ρ', w', q1, q2, q3⟩ := st_run (ps := ps) (r := r) (tt := tt) H hx hy e
  exact wpList_plain rfl fun _ hK => Yld.wp q1 (hK _ _ (k ρ' w' q2 q3))
set_option maxHeartbeats 400000 in
theorem wide_walk {ρ : Ren} {h : Hp} {nx : Pa} {w : World} {id : Pa} {g t : Nat} (H : HR ρ h nx w) (hg : ρ id = some (g, t)) (n k : Nat) (hn : n < 18446744073709551616) (hk : k ≤ 8) {T : T AV} {h' : Hp} {nx' : Pa} (e : wl id k n h nx = .nx T h' nx') :
    Calls Tryz.prog 216 #[.pointer (some ⟨g, 0, none⟩), .int .u64 n, .int .i64 k] w fun x w' => x = .returned (.tuple #[]) ∧ ∃ ρ', HR ρ' h' nx' w' ∧ Stp ρ h w ρ' h' w' := by
  go_enter Tryz.func216, Tryz.ntmps216
  go_wp2_with fail
  go_loopw [1, 2] (fun nv kv wr => ∃ (j m : Nat) (ρj : Ren) (hj : Hp) (nj : Pa), j ≤ k ∧ nv = .int .u64 m ∧ m < 18446744073709551616 ∧ kv = .int .i64 j ∧ HR ρj hj nj wr ∧ Stp ρ h w ρj hj wr ∧ ρj id = some (g, t) ∧ wl id j m hj nj = .nx T h' nx') (fun _ kv _ => (intOf kv).toNat)
  case atStart => exact ⟨k, n, ρ, h, nx, Nat.le_refl _, rfl, hn, rfl, H, Stp.refl _ _ _, hg, e⟩
  case round =>
    obtain ⟨j, m, ρj, hj, nj, hjk, rfl, hm, rfl, Hj, Sj, gj, ej⟩ := hrel
    have Ej := Lib.hid ej; clear ej e
    have Gj := Lib.hid gj; clear gj
    by_cases hj0 : 0 < j
    · obtain ⟨j', rfl⟩ : ∃ j', j = j' + 1 := ⟨j - 1, by omega⟩
      obtain ⟨v, h0, n0, av, h1, n1, u, h2, n2, e1, e2, e3, e4⟩ := wl_succ Ej.out
      obtain ⟨ad, uv, q1, hc, hv, r1, r2⟩ := oLd_run (xv := .p id 0) (v := .pointer (some ⟨g, 0, none⟩)) Hj ⟨g, t, Gj.out, rfl⟩ e1
      subst r1 r2
      cases q1
      have E2 := Lib.hid e2; clear e2
      have E3 := Lib.hid e3; clear e3
      have E4 := Lib.hid e4; clear e4 e1
      go_wp2_with (at_builtin; refine wpl_app2 rfl rfl (HR.keepW Hj (alloc_get _ _)) rfl hv rfl (srcOne (heap_new _ _)) (l := .cn (.i .u8 (.ofNat (m % 256))) .nl) ⟨_, _, rfl, rfl, rfl⟩ E2.out ?_)
      intro ρ1 u1 w1 V1 H1 S1
      have g1 := S1.ext _ _ Gj.out
      go_wp2_with (refine wpl_st rfl rfl rfl H1 rfl ⟨g, t, g1, rfl⟩ rfl V1 E3.out ?_)
      intro ρ2 w2 H2 S2
      go_wp2
      go_roundw
      case rel => exact ⟨j', m / 256, ρ2, h2, n2, by omega, by go_num, by omega, by go_num, H2, Sj.trans ((Stp.alloc _ _ _ _).trans (S1.trans S2)), S2.ext _ _ g1, E4.out⟩
      case measure => simp [intOf]
    · obtain rfl : j = 0 := by omega
      go_wp2
      go_end0
      have q : Rc.nx .lf hj nj = .nx T h' nx' := Ej.out
      cases q
      exact ⟨rfl, ρj, Hj, Sj⟩
theorem hook_wide : HookAt Tryz.prog 216 hWide := fun args h nx av h' nx' ρ w vs H hv e => by
  unfold hWide at e
  obtain ⟨p, a1, q1, e1⟩ := cnK_ok e
  obtain ⟨id, q2, e2⟩ := ptrK_ok e1
  obtain ⟨y, a2, q3, e3⟩ := cnK_ok e2
  obtain ⟨n, q4, e4⟩ := natK_ok e3
  obtain ⟨z, a3, q5, e5⟩ := cnK_ok e4
  obtain ⟨k, q6, e6⟩ := natK_ok e5
  obtain ⟨q7, e7⟩ := nlK_ok e6
  clear e1 e2 e3 e4 e5 e6 e
  subst q2 q4 q6 q7
  subst q5
  subst q3
  subst q1
  obtain ⟨v1, r1, rfl, ⟨g, t, hg, rfl⟩, v2, r2, rfl, h2, v3, r3, rfl, h3, h0⟩ := hv
  cases (show r3 = [] from h0)
  cases (show v2 = .int .u64 (Int.ofNat n) from h2)
  cases (show v3 = .int .i64 (Int.ofNat k) from h3)
  cases q : (Nat.blt n 18446744073709551616 && Nat.ble k 8) with
  | false => rw [q] at e7; cases e7
  | true =>
    rw [q] at e7
    obtain ⟨q1, q2⟩ := and_ok q
    obtain ⟨rfl, T, e8⟩ := rcV_ok e7
    refine Calls.mono (wide_walk H hg n k (Nat.le_of_ble_eq_true q1) (Nat.le_of_ble_eq_true q2) e8) fun x w' ⟨hx, ρ', H', S'⟩ => ⟨ρ', _, hx, ⟨[], rfl, rfl⟩, H', S'⟩
end Go.Proofs.YtkjdclpneaepkaaGreat
