/- A list of truths that is chosen as one goes: the regions that look at it. -/
import Derived.Test.YtkjdclpneaepkaaGreatEv54
import Derived.Test.YtkjdclpneaepkaaGreatProg
import Derived.WalkKit
set_option linter.unusedVariables false
open Go Go.Ev Go.Ev.Ch
namespace Go.Proofs.YtkjdclpneaepkaaGreat.Bo
noncomputable abbrev P0 : Program := Tryz.prog
/-- The argument: its block, its first place, its length and room; what it holds. -/
structure Arg where
  g : Nat
  off : Nat
  cap : Nat
  l : List Bool
/-- The argument stands where it stood; what was chosen is how it begins. -/
structure Inv (A : Arg) (p : List Bool) (ex : Bool) (σ : List Bool) (ρ : Ren) (α : T AV) (h : Hp) (w : World) : Prop where
  slot : getP (path 0) α = some (.sl Pa.e A.off A.l.length A.cap)
  nm : ρ Pa.e = some (A.g, 0)
  lt : A.g < w.heap.size
  own : ¬ Own ρ h A.g
  cell : ∀ i (hi : i < A.l.length), w.cell? ⟨A.g, A.off + i, none⟩ = some (.bool A.l[i])
  pre : σ <+: A.l
  plan : p <+: A.l
  exact : ex = true → p.length = A.l.length
theorem Inv.step {A : Arg} {p : List Bool} {ex : Bool} {σ : List Bool} {ρ ρ' : Ren} {h h' : Hp} {a a' : Act} {w w' : World} {α α' : T AV} {nx' : Pa} (v : Inv A p ex σ ρ α h w) (e : getP (path 0) α' = getP (path 0) α) (g : Go.Ev.Good ρ h a w ρ' α' h' nx' a' w') : Inv A p ex σ ρ' α' h' w' := by
  have hk := g.st.keep A.g v.lt v.own
  refine ⟨e.trans v.slot, g.st.ext _ _ v.nm, Nat.lt_of_lt_of_le v.lt g.st.size, fun o => ?_, fun i hi => ?_, v.pre, v.plan, v.exact⟩
  · rcases g.st.own _ o with k | k
    · exact v.own k
    · exact absurd v.lt (by omega)
  · have := v.cell i hi
    simp only [World.cell?] at this ⊢
    rw [hk]; exact this
theorem Inv.turn {A : Arg} {p : List Bool} {ex : Bool} {σ σ' : List Bool} {ρ : Ren} {h : Hp} {w : World} {α α' : T AV} (v : Inv A p ex σ ρ α h w) (e : getP (path 0) α' = getP (path 0) α) (hp : σ' <+: A.l) : Inv A p ex σ' ρ α' h w :=
  ⟨e.trans v.slot, v.nm, v.lt, v.own, v.cell, hp, v.plan, v.exact⟩
/-- What may be chosen now. -/
noncomputable def plan (p : List Bool) (ex : Bool) (σ : List Bool) (k : List Bool → Bool → Bool) : Bool :=
  Option.rec (motive := fun _ => Bool) (Bool.rec (motive := fun _ => Bool) (k σ false && (k (σ ++ [false]) true && k (σ ++ [true]) true)) (k σ false) ex) (fun x => k (σ ++ [x]) true) p[σ.length]?
noncomputable def out8 (b : Nat) (α : T AV) (t : Bool) : T AV := setP (some (.b t)) (path (b + 7)) (setP none (path (b + 6)) (setP none (path (b + 5)) (setP none (path (b + 4)) (setP none (path (b + 3)) (setP none (path (b + 2)) (setP none (path (b + 1)) (setP none (path b) α)))))))
noncomputable def numB (v : Option AV) (k : Nat → Bool) : Bool := match v with
  | some (.i .i64 (.ofNat i)) => k i
  | _ => false
noncomputable def Ftest (p : List Bool) (ex : Bool) (b ib K : Nat) : SpF (List Bool) := fun σ α h nx k =>
  numB (getP (path ib) α) fun i => Nat.beq i σ.length && (bif Nat.ble K i then k σ (out8 b α false) h nx else plan p ex σ fun σ' t => k σ' (out8 b α t) h nx)
noncomputable def out4 (b : Nat) (α : T AV) (t : Bool) : T AV := setP (some (.b t)) (path (b + 3)) (setP none (path (b + 2)) (setP none (path (b + 1)) (setP none (path b) α)))
noncomputable def Fload (b ib : Nat) : SpF (List Bool) := fun σ α h nx k =>
  numB (getP (path ib) α) fun i => Option.rec (motive := fun _ => Bool) false (fun x => k σ (out4 b α x) h nx) σ[i]?
noncomputable def out5 (b : Nat) (α : T AV) (t : Bool) : T AV := setP (some (.b t)) (path (b + 4)) (setP none (path (b + 3)) (setP none (path (b + 2)) (setP none (path (b + 1)) (setP none (path b) α))))
noncomputable def Floadn (b ib : Nat) : SpF (List Bool) := fun σ α h nx k =>
  numB (getP (path ib) α) fun i => Option.rec (motive := fun _ => Bool) false (fun x => k σ (out5 b α (Bool.not x)) h nx) σ[i]?
theorem TRn {ρ : Ren} {α : T AV} {a : Act} (h : TR ρ α a.tmps) (d : Nat) (v : Value) : TR ρ (setP none (path d) α) (a.put (some d) v).tmps := fun t u e => by
  rcases get_set' (none : Option AV) (path t) (path d) α with ⟨h1, h2⟩ | ⟨h1, h2⟩
  · rw [h1] at e; cases e
  · rw [h1] at e
    rw [put_other _ _ (by intro q; cases q; exact h2 rfl)]
    exact h t u e
theorem TRs {ρ : Ren} {α : T AV} {a : Act} (h : TR ρ α a.tmps) (d : Nat) (v : Value) {x : AV} (hx : V ρ x v) (hd : d < a.tmps.size) : TR ρ (setP (some x) (path d) α) (a.put (some d) v).tmps := fun t u e => by
  rcases get_set' (some x) (path t) (path d) α with ⟨h1, h2⟩ | ⟨h1, h2⟩
  · rw [h1] at e; cases e
    rw [path_inj h2]
    simpa [Act.put, Array.getD_eq_getD_getElem?, hd] using hx
  · rw [h1] at e
    rw [put_other _ _ (by intro q; cases q; exact h2 rfl)]
    exact h t u e
theorem put_same (a : Act) (d : Nat) (v : Value) (hd : d < a.tmps.size) : (a.put (some d) v).tmps.getD d undef = v := by simp [Act.put, Array.getD_eq_getD_getElem?, hd]
theorem wpl_val' {ops : Array Oper} {rest : List Oper} {o : Oper} {a : Act} {Q : Exit → Act → World → Prop} {w : World} {v : Value} (hg : Region.wanted o (yielded ops a.tmps) = true) (hr : (execOp a.eval o).run P0 w = .ok (.value v) w) (h : wpList P0 ops Q rest (a.put o.dst v) w) : wpList P0 ops Q (o :: rest) a w :=
  wpList_step fun _ hK => by rw [if_pos hg]; exact Yld.wp (.inl hr) (hK _ _ h)
theorem numB_ok {v : Option AV} {k : Nat → Bool} (h : numB v k = true) : ∃ i, v = some (.i .i64 (.ofNat i)) ∧ k i = true := by
  unfold numB at h
  split at h
  · rename_i i; exact ⟨i, rfl, h⟩
  · cases h
theorem and_ok' {a b : Bool} (h : (a && b) = true) : a = true ∧ b = true := by cases a <;> cases b <;> simp_all
theorem yl {ops : Array Oper} {a : Act} {j d : Nat} {t : Bool} (h1 : (ops[j]?).bind (·.dst) = some d) (h2 : a.tmps.getD d undef = .bool t) (h3 : d < a.tmps.size) : yielded ops a.tmps j = some t := by
  unfold yielded
  rw [h1]
  simp only [Option.bind_some]
  rw [Array.getD_eq_getD_getElem?, Array.getElem?_eq_getElem h3, Option.getD_some] at h2
  rw [Array.getElem?_eq_getElem h3, h2]
theorem int_lt (i n : Nat) (w : World) (u : TypeId) : (binOp .lss u (.int .i64 (.ofNat i)) (.int .i64 (.ofNat n))).run Tryz.prog w = .ok (.bool (Nat.blt i n)) w := by
  obtain ⟨u, hu, hu2⟩ := run_bI (P := Tryz.prog) (op := .lss) (k := .i64) (m := .ofNat i) (n := .ofNat n) (v := .b (Nat.blt i n)) (fun _ => none) rfl u (by intro q; cases q) (by intro q; cases q) w
  rw [hu, show u = .bool (Nat.blt i n) from hu2]
section
variable {a : Act} {w : World} {d : Option Tmp} {t : TypeId} {ps : String} {r : Array Edge} {g : Option (Nat × Bool)}
theorem st_move {x : Operand} {v : Value} (h : a.eval x = v) : (execOp a.eval ⟨d, .move x, t, ps, r, g⟩).run Tryz.prog w = .ok (.value v) w := by simp [execOp, h]
theorem st_len {y : Operand} {b : Option Addr} {n q : Nat} (h : a.eval y = .slice b n q) : (execOp a.eval ⟨d, .call ⟨.builtin .len, #[y], #[22]⟩, t, ps, r, g⟩).run Tryz.prog w = .ok (.value (.int .i64 (.ofNat n))) w := by
  obtain ⟨cs, hr⟩ := run_blt (P := Tryz.prog) (o := ⟨d, .call ⟨.builtin .len, #[y], #[22]⟩, t, ps, r, g⟩) rfl rfl a w
  rw [hr]
  simp [builtin, Builtin.len_, h, run_underlying Tryz.underlying22, goInt, Result.andThen]
theorem st_lss {x y : Operand} {u v : TypeId} {i n : Nat} (h1 : a.eval x = .int .i64 (.ofNat i)) (h2 : a.eval y = .int .i64 (.ofNat n)) : (execOp a.eval ⟨d, .binOp .lss u x y v, t, ps, r, g⟩).run Tryz.prog w = .ok (.value (.bool (Nat.blt i n))) w := by
  have hg := eqGuard_plain (P := Tryz.prog) (op := .lss) (t := u) (x := x) (y := y) (a := .int .i64 (.ofNat i)) (b := .int .i64 (.ofNat n)) rfl w
  have hl := int_lt i n w u
  simp only [Int.ofNat_eq_natCast] at h1 h2 hg hl
  simp [execOp, h1, h2, hg, hl]
theorem st_pick {c x y : Operand} {z : Bool} (h : a.eval c = .bool z) : (execOp a.eval ⟨d, .pick c x y, t, ps, r, g⟩).run Tryz.prog w = .ok (.value (bif z then a.eval x else a.eval y)) w := by cases z <;> simp [execOp, h, asBool]
theorem st_not {x : Operand} {u : TypeId} {z : Bool} (h : a.eval x = .bool z) : (execOp a.eval ⟨d, .unOp .not u x, t, ps, r, g⟩).run Tryz.prog w = .ok (.value (.bool (Bool.not z))) w := by cases z <;> simp [execOp, h, Op.unary]
theorem st_ia {x y : Operand} {b off n cap i : Nat} (h1 : a.eval x = .slice (some ⟨b, off, none⟩) n cap) (h2 : a.eval y = .int .i64 (.ofNat i)) (h3 : i < n) : (execOp a.eval ⟨d, .indexAddr 22 x y, t, ps, r, g⟩).run Tryz.prog w = .ok (.value (.pointer (some ⟨b, off + i, none⟩))) w := by
  have h4 : (0 : Int) ≤ (i : Int) ∧ (i : Int) < (n : Int) := ⟨by omega, by omega⟩
  have hi : (Tryz.prog.info? 4).isSome = true := by kernel_rfl
  obtain ⟨q, hq⟩ := Option.isSome_iff_exists.1 hi
  have hs : szT Tryz.prog 4 = 1 := by kernel_rfl
  simp only [Int.ofNat_eq_natCast] at h2
  simp [execOp, h1, h2, Instr.indexAt, asIntOf, underlying_some Tryz.underlying22, sizeOf_run hq, add_eq, hs, h3]
theorem st_load {x : Operand} {b off : Nat} {v : Value} (h1 : a.eval x = .pointer (some ⟨b, off, none⟩)) (h2 : w.cell? ⟨b, off, none⟩ = some v) : (execOp a.eval ⟨d, .load 4 x, t, ps, r, g⟩).run Tryz.prog w = .ok (.value v) w := by
  have hg : aggT Tryz.prog 4 = false := by kernel_rfl
  simp [execOp, Instr.loadAt, h1, Instr.sureAddr, loadVar, isAgg_run Tryz.underlying4, hg, h2]
end
theorem wantedG {o : Oper} {y : Nat → Option Bool} {j : Nat} {w t : Bool} (hg : o.guard = some (j, w)) (hy : y j = some t) : Region.wanted o y = (t == w) := by
  unfold Region.wanted
  rw [hg]
  simp only [hy]
  cases t <;> cases w <;> rfl
theorem get_ne (a : Act) {d t : Nat} (v : Value) (h : d ≠ t) : (a.put (some d) v).tmps.getD t undef = a.tmps.getD t undef := put_other _ _ (by intro q; cases q; exact h rfl)
section
variable {b ib K id nt : Nat} {ps : String} {r0 r1 r2 r3 r4 r5 r6 r7 : Array Edge} {tI tB tA tT : Nat}
theorem test_run {ρ : Ren} {α : T AV} {a : Act} {w : World} {Q : Exit → Act → World → Prop} {x : Option Addr} {i n cap : Nat} (hb : b + 7 < nt) (hib : ib < b) (h0 : 0 < b) (hT : TR ρ α a.tmps) (hnt : nt ≤ a.tmps.size) (t0 : a.tmps.getD 0 undef = .slice x n cap) (ti : a.tmps.getD ib undef = .int .i64 (.ofNat i))
    (hQ : ∀ a', TR ρ (out8 b α (bif Nat.blt i n then Nat.blt i K else false)) a'.tmps → a'.tmps.size = a.tmps.size → a'.defers = a.defers → Q .normal a' w) :
    Code.wp Tryz.prog (.region id #[⟨some b, .move (.tmp ib), tI, ps, r0, none⟩, ⟨some (b + 1), .move (.tmp 0), tA, ps, r1, none⟩, ⟨some (b + 2), .call ⟨.builtin .len, #[.tmp (b + 1)], #[22]⟩, tI, ps, r2, none⟩, ⟨some (b + 3), .binOp .lss tT (.tmp b) (.tmp (b + 2)) tT, tB, ps, r3, none⟩, ⟨some (b + 4), .move (.tmp (b + 3)), tB, ps, r4, none⟩,
      ⟨some (b + 5), .move (.tmp ib), tI, ps, r5, some (4, true)⟩, ⟨some (b + 6), .binOp .lss tT (.tmp (b + 5)) (.const (.int .i64 (.ofNat K))) tT, tB, ps, r6, some (4, true)⟩, ⟨some (b + 7), .pick (.tmp (b + 4)) (.tmp (b + 6)) (.const (.bool false)), tB, ps, r7, none⟩] false) Q a w := by
  refine wp_region_list ?_
  refine wpl_val' (v := .int .i64 (.ofNat i)) rfl (st_move ti) ?_
  obtain ⟨a1, h1⟩ : ∃ y, y = a.put (some b) (.int .i64 (.ofNat i)) := ⟨_, rfl⟩
  rw [← h1]
  have s1 : a1.tmps.size = a.tmps.size := by rw [h1, put_size]
  have d1 : a1.defers = a.defers := by rw [h1, put_defers]
  have T1 : TR ρ (setP none (path b) α) a1.tmps := by rw [h1]; exact TRn hT _ _
  have e1 : a1.tmps.getD b undef = .int .i64 (.ofNat i) := by rw [h1]; exact put_same _ _ _ (by omega)
  have z1 : a1.tmps.getD 0 undef = .slice x n cap := by rw [h1, get_ne _ _ (by omega)]; exact t0
  have i1 : a1.tmps.getD ib undef = .int .i64 (.ofNat i) := by rw [h1, get_ne _ _ (by omega)]; exact ti
  refine wpl_val' (v := .slice x n cap) rfl (st_move z1) ?_
  obtain ⟨a2, h2⟩ : ∃ y, y = a1.put (some (b + 1)) (.slice x n cap) := ⟨_, rfl⟩
  rw [← h2]
  have s2 : a2.tmps.size = a.tmps.size := by rw [h2, put_size, s1]
  have d2 : a2.defers = a.defers := by rw [h2, put_defers, d1]
  have T2 := TRn T1 (b + 1) (.slice x n cap)
  rw [← h2] at T2
  have e2 : a2.tmps.getD b undef = .int .i64 (.ofNat i) := by rw [h2, get_ne _ _ (by omega)]; exact e1
  have f2 : a2.tmps.getD (b + 1) undef = .slice x n cap := by rw [h2]; exact put_same _ _ _ (by omega)
  have i2 : a2.tmps.getD ib undef = .int .i64 (.ofNat i) := by rw [h2, get_ne _ _ (by omega)]; exact i1
  refine wpl_val' (v := .int .i64 (.ofNat n)) rfl (st_len f2) ?_
  obtain ⟨a3, h3⟩ : ∃ y, y = a2.put (some (b + 2)) (.int .i64 (.ofNat n)) := ⟨_, rfl⟩
  rw [← h3]
  have s3 : a3.tmps.size = a.tmps.size := by rw [h3, put_size, s2]
  have d3 : a3.defers = a.defers := by rw [h3, put_defers, d2]
  have T3 := TRn T2 (b + 2) (.int .i64 (.ofNat n))
  rw [← h3] at T3
  have e3 : a3.tmps.getD b undef = .int .i64 (.ofNat i) := by rw [h3, get_ne _ _ (by omega)]; exact e2
  have f3 : a3.tmps.getD (b + 2) undef = .int .i64 (.ofNat n) := by rw [h3]; exact put_same _ _ _ (by omega)
  have i3 : a3.tmps.getD ib undef = .int .i64 (.ofNat i) := by rw [h3, get_ne _ _ (by omega)]; exact i2
  refine wpl_val' (v := .bool (Nat.blt i n)) rfl (st_lss e3 f3) ?_
  obtain ⟨a4, h4⟩ : ∃ y, y = a3.put (some (b + 3)) (.bool (Nat.blt i n)) := ⟨_, rfl⟩
  rw [← h4]
  have s4 : a4.tmps.size = a.tmps.size := by rw [h4, put_size, s3]
  have d4 : a4.defers = a.defers := by rw [h4, put_defers, d3]
  have T4 := TRn T3 (b + 3) (.bool (Nat.blt i n))
  rw [← h4] at T4
  have f4 : a4.tmps.getD (b + 3) undef = .bool (Nat.blt i n) := by rw [h4]; exact put_same _ _ _ (by omega)
  have i4 : a4.tmps.getD ib undef = .int .i64 (.ofNat i) := by rw [h4, get_ne _ _ (by omega)]; exact i3
  refine wpl_val' (v := .bool (Nat.blt i n)) rfl (st_move f4) ?_
  obtain ⟨a5, h5⟩ : ∃ y, y = a4.put (some (b + 4)) (.bool (Nat.blt i n)) := ⟨_, rfl⟩
  rw [← h5]
  have s5 : a5.tmps.size = a.tmps.size := by rw [h5, put_size, s4]
  have d5 : a5.defers = a.defers := by rw [h5, put_defers, d4]
  have T5 := TRn T4 (b + 4) (.bool (Nat.blt i n))
  rw [← h5] at T5
  have f5 : a5.tmps.getD (b + 4) undef = .bool (Nat.blt i n) := by rw [h5]; exact put_same _ _ _ (by omega)
  have i5 : a5.tmps.getD ib undef = .int .i64 (.ofNat i) := by rw [h5, get_ne _ _ (by omega)]; exact i4
  cases hc : Nat.blt i n with
  | true =>
    rw [hc] at f5 hQ
    refine wpl_val' (v := .int .i64 (.ofNat i)) ((wantedG rfl (yl (d := b + 4) rfl f5 (by omega))).trans rfl) (st_move i5) ?_
    obtain ⟨a6, h6⟩ : ∃ y, y = a5.put (some (b + 5)) (.int .i64 (.ofNat i)) := ⟨_, rfl⟩
    rw [← h6]
    have s6 : a6.tmps.size = a.tmps.size := by rw [h6, put_size, s5]
    have d6 : a6.defers = a.defers := by rw [h6, put_defers, d5]
    have T6 := TRn T5 (b + 5) (.int .i64 (.ofNat i))
    rw [← h6] at T6
    have f6 : a6.tmps.getD (b + 4) undef = .bool true := by rw [h6, get_ne _ _ (by omega)]; exact f5
    have i6 : a6.tmps.getD (b + 5) undef = .int .i64 (.ofNat i) := by rw [h6]; exact put_same _ _ _ (by omega)
    refine wpl_val' (v := .bool (Nat.blt i K)) ((wantedG rfl (yl (d := b + 4) rfl f6 (by omega))).trans rfl) (st_lss i6 rfl) ?_
    obtain ⟨a7, h7⟩ : ∃ y, y = a6.put (some (b + 6)) (.bool (Nat.blt i K)) := ⟨_, rfl⟩
    rw [← h7]
    have s7 : a7.tmps.size = a.tmps.size := by rw [h7, put_size, s6]
    have d7 : a7.defers = a.defers := by rw [h7, put_defers, d6]
    have T7 := TRn T6 (b + 6) (.bool (Nat.blt i K))
    rw [← h7] at T7
    have f7 : a7.tmps.getD (b + 4) undef = .bool true := by rw [h7, get_ne _ _ (by omega)]; exact f6
    have g7 : a7.tmps.getD (b + 6) undef = .bool (Nat.blt i K) := by rw [h7]; exact put_same _ _ _ (by omega)
    refine wpl_val' (v := .bool (Nat.blt i K)) rfl ((st_pick (a := a7) (c := .tmp (b + 4)) f7).trans (by rw [cond_true]; show Result.ok (Next.value (a7.tmps.getD (b + 6) undef)) w = _; rw [g7])) ?_
    exact wpList_nil (hQ _ (TRs T7 (b + 7) _ rfl (by omega)) (by rw [put_size, s7]) (by rw [put_defers, d7]))
  | false =>
    rw [hc] at f5 hQ
    refine wpList_skip ((wantedG rfl (yl (d := b + 4) rfl f5 (by omega))).trans rfl) ?_
    obtain ⟨a6, h6⟩ : ∃ y, y = a5.put (some (b + 5)) undef := ⟨_, rfl⟩
    rw [← h6]
    have s6 : a6.tmps.size = a.tmps.size := by rw [h6, put_size, s5]
    have d6 : a6.defers = a.defers := by rw [h6, put_defers, d5]
    have T6 := TRn T5 (b + 5) undef
    rw [← h6] at T6
    have f6 : a6.tmps.getD (b + 4) undef = .bool false := by rw [h6, get_ne _ _ (by omega)]; exact f5
    refine wpList_skip ((wantedG rfl (yl (d := b + 4) rfl f6 (by omega))).trans rfl) ?_
    obtain ⟨a7, h7⟩ : ∃ y, y = a6.put (some (b + 6)) undef := ⟨_, rfl⟩
    rw [← h7]
    have s7 : a7.tmps.size = a.tmps.size := by rw [h7, put_size, s6]
    have d7 : a7.defers = a.defers := by rw [h7, put_defers, d6]
    have T7 := TRn T6 (b + 6) undef
    rw [← h7] at T7
    have f7 : a7.tmps.getD (b + 4) undef = .bool false := by rw [h7, get_ne _ _ (by omega)]; exact f6
    refine wpl_val' (v := .bool false) rfl (st_pick (a := a7) (c := .tmp (b + 4)) f7) ?_
    exact wpList_nil (hQ _ (TRs T7 (b + 7) _ rfl (by omega)) (by rw [put_size, s7]) (by rw [put_defers, d7]))
theorem load_list {ops : Array Oper} {rest : List Oper} {ρ : Ren} {α : T AV} {a : Act} {w : World} {Q : Exit → Act → World → Prop} {g off i n cap : Nat} {x : Bool} (hb : b + 3 < nt) (hib : ib < b) (hT : TR ρ α a.tmps) (hnt : nt ≤ a.tmps.size) (t0 : a.tmps.getD 0 undef = .slice (some ⟨g, off, none⟩) n cap) (ti : a.tmps.getD ib undef = .int .i64 (.ofNat i)) (hi : i < n)
    (hc : w.cell? ⟨g, off + i, none⟩ = some (.bool x)) (hQ : ∀ a', TR ρ (out4 b α x) a'.tmps → a'.tmps.size = a.tmps.size → a'.defers = a.defers → a'.tmps.getD (b + 3) undef = .bool x → wpList Tryz.prog ops Q rest a' w) :
    wpList Tryz.prog ops Q (⟨some b, .move (.tmp 0), tA, ps, r0, none⟩ :: ⟨some (b + 1), .move (.tmp ib), tI, ps, r1, none⟩ :: ⟨some (b + 2), .indexAddr 22 (.tmp b) (.tmp (b + 1)), tB, ps, r2, none⟩ :: ⟨some (b + 3), .load 4 (.tmp (b + 2)), tT, ps, r3, none⟩ :: rest) a w := by
  refine wpl_val' (v := .slice (some ⟨g, off, none⟩) n cap) rfl (st_move t0) ?_
  obtain ⟨a1, h1⟩ : ∃ y, y = a.put (some b) (.slice (some ⟨g, off, none⟩) n cap) := ⟨_, rfl⟩
  rw [← h1]
  have s1 : a1.tmps.size = a.tmps.size := by rw [h1, put_size]
  have d1 : a1.defers = a.defers := by rw [h1, put_defers]
  have T1 : TR ρ (setP none (path b) α) a1.tmps := by rw [h1]; exact TRn hT _ _
  have z1 : a1.tmps.getD b undef = .slice (some ⟨g, off, none⟩) n cap := by rw [h1]; exact put_same _ _ _ (by omega)
  have i1 : a1.tmps.getD ib undef = .int .i64 (.ofNat i) := by rw [h1, get_ne _ _ (by omega)]; exact ti
  refine wpl_val' (v := .int .i64 (.ofNat i)) rfl (st_move i1) ?_
  obtain ⟨a2, h2⟩ : ∃ y, y = a1.put (some (b + 1)) (.int .i64 (.ofNat i)) := ⟨_, rfl⟩
  rw [← h2]
  have s2 : a2.tmps.size = a.tmps.size := by rw [h2, put_size, s1]
  have d2 : a2.defers = a.defers := by rw [h2, put_defers, d1]
  have T2 := TRn T1 (b + 1) (.int .i64 (.ofNat i))
  rw [← h2] at T2
  have e2 : a2.tmps.getD b undef = .slice (some ⟨g, off, none⟩) n cap := by rw [h2, get_ne _ _ (by omega)]; exact z1
  have f2 : a2.tmps.getD (b + 1) undef = .int .i64 (.ofNat i) := by rw [h2]; exact put_same _ _ _ (by omega)
  refine wpl_val' (v := .pointer (some ⟨g, off + i, none⟩)) rfl (st_ia e2 f2 hi) ?_
  obtain ⟨a3, h3⟩ : ∃ y, y = a2.put (some (b + 2)) (.pointer (some ⟨g, off + i, none⟩)) := ⟨_, rfl⟩
  rw [← h3]
  have s3 : a3.tmps.size = a.tmps.size := by rw [h3, put_size, s2]
  have d3 : a3.defers = a.defers := by rw [h3, put_defers, d2]
  have T3 := TRn T2 (b + 2) (.pointer (some ⟨g, off + i, none⟩))
  rw [← h3] at T3
  have f3 : a3.tmps.getD (b + 2) undef = .pointer (some ⟨g, off + i, none⟩) := by rw [h3]; exact put_same _ _ _ (by omega)
  refine wpl_val' (v := .bool x) rfl (st_load f3 hc) ?_
  exact hQ _ (TRs T3 (b + 3) _ rfl (by omega)) (by rw [put_size, s3]) (by rw [put_defers, d3]) (put_same _ _ _ (by omega))
theorem plan_ok {A : Arg} {p : List Bool} {ex : Bool} {σ : List Bool} {k : List Bool → Bool → Bool} (_ : σ <+: A.l) (h2 : p <+: A.l) (h3 : ex = true → p.length = A.l.length) (hF : plan p ex σ k = true) :
    (∀ h : σ.length < A.l.length, k (σ ++ [A.l[σ.length]]) true = true) ∧ (¬ σ.length < A.l.length → k σ false = true) := by
  unfold plan at hF
  cases e : p[σ.length]? with
  | some x =>
    rw [e] at hF
    have hl : σ.length < p.length := by
      rcases Nat.lt_or_ge σ.length p.length with q | q
      · exact q
      · rw [List.getElem?_eq_none q] at e; cases e
    have hx : ∀ h : σ.length < A.l.length, A.l[σ.length] = x := fun h => by
      obtain ⟨s, hs⟩ := h2
      have : A.l[σ.length]? = some x := by rw [← hs, List.getElem?_append_left hl]; exact e
      rw [List.getElem?_eq_getElem h] at this
      exact Option.some.inj this
    exact ⟨fun h => by rw [hx h]; exact hF, fun h => absurd (Nat.lt_of_lt_of_le hl h2.length_le) h⟩
  | none =>
    rw [e] at hF
    have hl : p.length ≤ σ.length := by
      rcases Nat.lt_or_ge σ.length p.length with q | q
      · rw [List.getElem?_eq_getElem q] at e; cases e
      · exact q
    cases ex with
    | true =>
      have h3 := h3 rfl
      exact ⟨fun h => by omega, fun _ => hF⟩
    | false =>
      have hF : (k σ false && (k (σ ++ [false]) true && k (σ ++ [true]) true)) = true := hF
      obtain ⟨q1, q2⟩ := and_ok' hF
      obtain ⟨q2, q3⟩ := and_ok' q2
      exact ⟨fun h => by cases A.l[σ.length] <;> assumption, fun _ => q1⟩
theorem pre_snoc {σ l : List Bool} (h : σ <+: l) (h2 : σ.length < l.length) : σ ++ [l[σ.length]] <+: l := by
  obtain ⟨s, rfl⟩ := h
  cases s with
  | nil => simp at h2
  | cons x s => exact ⟨s, by simp⟩
/-- The test: i is less than the length, and less than K. -/
theorem test_ok {A : Arg} {p : List Bool} {ex : Bool} (hb : b + 7 < nt) (hib : ib < b) (h0 : 0 < b) :
    SpOk Tryz.prog (Inv A p ex) nt (Ftest p ex b ib K) id #[⟨some b, .move (.tmp ib), tI, ps, r0, none⟩, ⟨some (b + 1), .move (.tmp 0), tA, ps, r1, none⟩, ⟨some (b + 2), .call ⟨.builtin .len, #[.tmp (b + 1)], #[22]⟩, tI, ps, r2, none⟩, ⟨some (b + 3), .binOp .lss tT (.tmp b) (.tmp (b + 2)) tT, tB, ps, r3, none⟩, ⟨some (b + 4), .move (.tmp (b + 3)), tB, ps, r4, none⟩,
      ⟨some (b + 5), .move (.tmp ib), tI, ps, r5, some (4, true)⟩, ⟨some (b + 6), .binOp .lss tT (.tmp (b + 5)) (.const (.int .i64 (.ofNat K))) tT, tB, ps, r6, some (4, true)⟩, ⟨some (b + 7), .pick (.tmp (b + 4)) (.tmp (b + 6)) (.const (.bool false)), tB, ps, r7, none⟩] false := by
  intro σ ρ α a w h nx k H hT hnt hv hF
  unfold Ftest at hF
  obtain ⟨i, ei, hF3⟩ := numB_ok hF
  obtain ⟨hi, hF4⟩ := and_ok' hF3
  have hi : i = σ.length := Nat.eq_of_beq_eq_true hi
  obtain ⟨g, t, hg, t0⟩ := hT 0 _ hv.slot
  have ti : a.tmps.getD ib undef = .int .i64 (.ofNat i) := hT ib _ ei
  have o8 : ∀ t, getP (path 0) (out8 b α t) = getP (path 0) α := fun t => by
    unfold out8
    rw [get_set_ne _ _ _ _ (fun q => by have := path_inj q; omega), get_set_ne _ _ _ _ (fun q => by have := path_inj q; omega), get_set_ne _ _ _ _ (fun q => by have := path_inj q; omega), get_set_ne _ _ _ _ (fun q => by have := path_inj q; omega),
      get_set_ne _ _ _ _ (fun q => by have := path_inj q; omega), get_set_ne _ _ _ _ (fun q => by have := path_inj q; omega), get_set_ne _ _ _ _ (fun q => by have := path_inj q; omega), get_set_ne _ _ _ _ (fun q => by have := path_inj q; omega)]
  refine test_run hb hib h0 hT hnt t0 ti fun a' T' s' d' => ⟨rfl, ?_⟩
  have fin : ∀ σ' t, t = (bif Nat.blt i A.l.length then Nat.blt i K else false) → σ' <+: A.l → k σ' (out8 b α t) h nx = true → ∃ s' α' h' nx' ρ', k s' α' h' nx' = true ∧ Inv A p ex s' ρ' α' h' w ∧ Go.Ev.Good ρ h a w ρ' α' h' nx' a' w := fun σ' t ht hp hk => by
    subst ht
    exact ⟨σ', _, h, nx, ρ, hk, hv.turn (o8 _) hp, T', H, Stp.refl _ _ _, s', d'⟩
  cases hc : Nat.ble K i with
  | true =>
    rw [hc] at hF4
    refine fin σ false ?_ hv.pre hF4
    have : Nat.blt i K = false := by
      cases q : Nat.blt i K with
      | false => rfl
      | true => have q1 := Nat.le_of_ble_eq_true hc; have q2 := Nat.le_of_ble_eq_true q; omega
    rw [this]
    cases Nat.blt i A.l.length <;> rfl
  | false =>
    rw [hc] at hF4
    have hiK : Nat.blt i K = true := by
      cases q : Nat.blt i K with
      | true => rfl
      | false => have q1 := Nat.le_of_not_le (fun q => absurd (Nat.ble_eq_true_of_le q) (by rw [hc]; intro h; cases h) : ¬ K ≤ i); have q2 : ¬ i + 1 ≤ K := fun r => absurd (Nat.ble_eq_true_of_le r) (by rw [show Nat.ble (i + 1) K = false from q]; intro h; cases h); have : ¬ K ≤ i := fun q => absurd (Nat.ble_eq_true_of_le q) (by rw [hc]; intro h; cases h); omega
    have hF4 : plan p ex σ (fun σ' t => k σ' (out8 b α t) h nx) = true := hF4
    obtain ⟨p1, p2⟩ := plan_ok hv.pre hv.plan hv.exact hF4
    rw [hiK] at fin
    by_cases hl : σ.length < A.l.length
    · refine fin _ true ?_ (pre_snoc hv.pre hl) (p1 hl)
      rw [hi, show Nat.blt σ.length A.l.length = true from Nat.ble_eq_true_of_le hl]; rfl
    · refine fin _ false ?_ hv.pre (p2 hl)
      have : Nat.blt i A.l.length = false := by
        cases q : Nat.blt i A.l.length with
        | false => rfl
        | true => have q2 := Nat.le_of_ble_eq_true q; omega
      rw [this]; rfl
theorem load_ok {A : Arg} {p : List Bool} {ex : Bool} (hb : b + 3 < nt) (hib : ib < b) (h0 : 0 < b) :
    SpOk Tryz.prog (Inv A p ex) nt (Fload b ib) id #[⟨some b, .move (.tmp 0), tA, ps, r0, none⟩, ⟨some (b + 1), .move (.tmp ib), tI, ps, r1, none⟩, ⟨some (b + 2), .indexAddr 22 (.tmp b) (.tmp (b + 1)), tB, ps, r2, none⟩, ⟨some (b + 3), .load 4 (.tmp (b + 2)), tT, ps, r3, none⟩] false := by
  intro σ ρ α a w h nx k H hT hnt hv hF
  unfold Fload at hF
  obtain ⟨i, ei, hF3⟩ := numB_ok hF
  obtain ⟨g, t, hg, t0⟩ := hT 0 _ hv.slot
  have ti : a.tmps.getD ib undef = .int .i64 (.ofNat i) := hT ib _ ei
  rw [hv.nm] at hg
  cases hg
  cases e : σ[i]? with
  | none => rw [e] at hF3; cases hF3
  | some x =>
    rw [e] at hF3
    have hi : i < σ.length := by
      rcases Nat.lt_or_ge i σ.length with q | q
      · exact q
      · rw [List.getElem?_eq_none q] at e; cases e
    have hl : i < A.l.length := Nat.lt_of_lt_of_le hi hv.pre.length_le
    have hx : A.l[i] = x := by
      obtain ⟨s, hs⟩ := hv.pre
      have : A.l[i]? = some x := by rw [← hs, List.getElem?_append_left hi]; exact e
      rw [List.getElem?_eq_getElem hl] at this
      exact Option.some.inj this
    have hc := hv.cell i hl
    rw [hx] at hc
    refine wp_region_list (load_list (nt := nt) hb hib hT hnt t0 ti hl hc fun a' T' s' d' _ => wpList_nil ⟨rfl, σ, _, h, nx, ρ, hF3, hv.turn ?_ hv.pre, T', H, Stp.refl _ _ _, s', d'⟩)
    unfold out4
    rw [get_set_ne _ _ _ _ (fun q => by have := path_inj q; omega), get_set_ne _ _ _ _ (fun q => by have := path_inj q; omega), get_set_ne _ _ _ _ (fun q => by have := path_inj q; omega), get_set_ne _ _ _ _ (fun q => by have := path_inj q; omega)]
theorem loadn_ok {A : Arg} {p : List Bool} {ex : Bool} (hb : b + 4 < nt) (hib : ib < b) (h0 : 0 < b) :
    SpOk Tryz.prog (Inv A p ex) nt (Floadn b ib) id #[⟨some b, .move (.tmp 0), tA, ps, r0, none⟩, ⟨some (b + 1), .move (.tmp ib), tI, ps, r1, none⟩, ⟨some (b + 2), .indexAddr 22 (.tmp b) (.tmp (b + 1)), tB, ps, r2, none⟩, ⟨some (b + 3), .load 4 (.tmp (b + 2)), tT, ps, r3, none⟩, ⟨some (b + 4), .unOp .not tT (.tmp (b + 3)), tT, ps, r4, none⟩] false := by
  intro σ ρ α a w h nx k H hT hnt hv hF
  unfold Floadn at hF
  obtain ⟨i, ei, hF3⟩ := numB_ok hF
  obtain ⟨g, t, hg, t0⟩ := hT 0 _ hv.slot
  have ti : a.tmps.getD ib undef = .int .i64 (.ofNat i) := hT ib _ ei
  rw [hv.nm] at hg
  cases hg
  cases e : σ[i]? with
  | none => rw [e] at hF3; cases hF3
  | some x =>
    rw [e] at hF3
    have hi : i < σ.length := by
      rcases Nat.lt_or_ge i σ.length with q | q
      · exact q
      · rw [List.getElem?_eq_none q] at e; cases e
    have hl : i < A.l.length := Nat.lt_of_lt_of_le hi hv.pre.length_le
    have hx : A.l[i] = x := by
      obtain ⟨s, hs⟩ := hv.pre
      have : A.l[i]? = some x := by rw [← hs, List.getElem?_append_left hi]; exact e
      rw [List.getElem?_eq_getElem hl] at this
      exact Option.some.inj this
    have hc := hv.cell i hl
    rw [hx] at hc
    refine wp_region_list (load_list (nt := nt) (by omega) hib hT hnt t0 ti hl hc fun a' T' s' d' f' => ?_)
    refine wpl_val' (v := .bool (Bool.not x)) rfl (st_not (a := a') (x := .tmp (b + 3)) f') ?_
    refine wpList_nil ⟨rfl, σ, _, h, nx, ρ, hF3, hv.turn ?_ hv.pre, ?_, H, Stp.refl _ _ _, by rw [put_size, s'], by rw [put_defers, d']⟩
    rotate_left 1
    · refine TRs (α := setP none (path (b + 3)) (setP none (path (b + 2)) (setP none (path (b + 1)) (setP none (path b) α)))) (fun t u e => ?_) (b + 4) _ rfl (by omega)
      rcases get_set' (none : Option AV) (path t) (path (b + 3)) (setP none (path (b + 2)) (setP none (path (b + 1)) (setP none (path b) α))) with ⟨h1, h2⟩ | ⟨h1, h2⟩
      · rw [h1] at e; cases e
      · rw [h1] at e; exact T' t u (by unfold out4; rw [get_set_ne _ _ _ _ h2]; exact e)
    unfold out5
    rw [get_set_ne _ _ _ _ (fun q => by have := path_inj q; omega), get_set_ne _ _ _ _ (fun q => by have := path_inj q; omega), get_set_ne _ _ _ _ (fun q => by have := path_inj q; omega), get_set_ne _ _ _ _ (fun q => by have := path_inj q; omega), get_set_ne _ _ _ _ (fun q => by have := path_inj q; omega)]
end
end Go.Proofs.YtkjdclpneaepkaaGreat.Bo
