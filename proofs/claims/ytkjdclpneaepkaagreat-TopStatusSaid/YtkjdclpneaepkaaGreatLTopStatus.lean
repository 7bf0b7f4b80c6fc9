/- TopStatus: the law returns true and changes nothing that was there. No conditions. -/
import Derived.Test.YtkjdclpneaepkaaGreatEv53
import Derived.Test.YtkjdclpneaepkaaGreatEv55
import Derived.Deep.CutRange
import Derived.Test.YtkjdclpneaepkaaGreatRows
import Derived.Test.YtkjdclpneaepkaaGreatGTopStatus
import Derived.WalkKit
import Derived.ProofKit
import Derived.OpenShut
import Derived.ShutString
import Derived.ChangeOld
import Derived.Below
namespace Go.Proofs.YtkjdclpneaepkaaGreat.topStatus
open Go Go.ChangeShapes Go.WideShapes Go.ChangeAt Go.RowKit
open Go.ChangeMaps (open_string shut_string)

theorem own : ownKnob Tryz.prog.godebug = none := by kernel_rfl
theorem laidOut : laidOutB Tryz.prog = true := facLaid

open Go.Proofs Go.Ev Go.RowKit
noncomputable def out (α : T AV) (x : Bool) : T AV := setP (some (.b x)) (path 45) (setP none (path 44) (setP none (path 43) α))
noncomputable def F9 : SpF := fun α h nx k => Option.rec (motive := fun _ => Bool) false (fun v => match v with | .i .i64 _ => k (out α true) h nx && k (out α false) h nx | _ => false) (getP (path 0) α)
noncomputable def sp (id : Nat) : Option SpF := bif Nat.beq id 9 then some F9 else none
theorem sp9 : SpOk Tryz.prog (fun _ _ _ => True) 100 F9 9 #[{ dst := some 43, op := .move (.tmp 0), type := 3, pos := "three.go:302", after := #[], guard := none }, { dst := some 44, op := .binOp .and 3 (.tmp 43) (.const (.int .i64 1)) 3, type := 3, pos := "three.go:302", after := #[{ on := 0, ground := .data }], guard := none }, { dst := some 45, op := .binOp .eql 3 (.tmp 44) (.const (.int .i64 1)) 3, type := 4, pos := "three.go:302", after := #[{ on := 1, ground := .data }], guard := none }] false := by
  intro ρ α a w h nx k H hT hnt _ hF
  unfold F9 at hF
  cases e0 : getP (path 0) α with
  | none => rw [e0] at hF; cases hF
  | some v =>
    rw [e0] at hF
    simp only at hF
    split at hF
    · rename_i n
      obtain ⟨h1, h2⟩ := and_ok hF
      have t0 : a.tmps.getD 0 undef = .int .i64 n := hT 0 _ e0
      refine wp_region_list ?_
      refine wpl_val (v := .int .i64 n) rfl (by simp [execOp, Act.eval, t0]) ?_
      obtain ⟨y, hy⟩ : ∃ y, (binOp .and 3 (.int .i64 n) (.int .i64 1)).run Tryz.prog w = .ok (.int .i64 y) w := ⟨_, by simp [binOp, Op.intBits]; rfl⟩
      have l1 : ∀ (a : Act) (d : Nat) (v : Value), d < a.tmps.size → (a.put (some d) v).tmps.getD d undef = v := fun a d v hd => by simp [Act.put, Array.getD_eq_getD_getElem?, hd]
      refine wpl_val (v := .int .i64 y) rfl (by have g1 := eqGuard_plain (P := Tryz.prog) (op := .and) (t := 3) (x := .tmp 43) (y := .const (.int .i64 1)) (a := .int .i64 n) (b := .int .i64 1) rfl w; simp [execOp, Act.eval, l1 a 43 _ (by omega), g1, hy]) ?_
      obtain ⟨u, hu, hu2⟩ := run_bI (P := Tryz.prog) (op := .eql) (k := .i64) (m := y) (n := 1) (v := .b (eqI y 1)) ρ rfl 3 (by intro q; cases q) (by intro q; cases q) w
      cases (show u = .bool (eqI y 1) from hu2)
      refine wpl_val (v := .bool (eqI y 1)) rfl (by simp [execOp, Act.eval, l1 _ 44 _ (show 44 < (a.put (some 43) (.int .i64 n)).tmps.size by rw [put_size]; omega), eqGuard_plain (P := Tryz.prog) (op := .eql) (t := 3) (x := .tmp 44) (y := .const (.int .i64 1)) (a := .int .i64 y) (b := .int .i64 1) rfl w, hu]) ?_
      refine ⟨rfl, out α (eqI y 1), h, nx, ρ, by cases eqI y 1 <;> assumption, ?_, H, Stp.refl _ _ _, by rw [put_size, put_size, put_size], by rw [put_defers, put_defers, put_defers]⟩
      intro t v e
      unfold out at e
      rcases get_set' (some (AV.b (eqI y 1))) (path t) (path 45) (setP none (path 44) (setP none (path 43) α)) with ⟨g1, g2⟩ | ⟨g1, g2⟩
      · rw [g1] at e; cases e
        rw [path_inj g2]
        exact l1 _ 45 _ (by rw [put_size, put_size]; omega)
      · rw [g1] at e
        rcases get_set' (none : Option AV) (path t) (path 44) (setP none (path 43) α) with ⟨g3, g4⟩ | ⟨g3, g4⟩
        · rw [g3] at e; cases e
        · rw [g3] at e
          rcases get_set' (none : Option AV) (path t) (path 43) α with ⟨g5, g6⟩ | ⟨g5, g6⟩
          · rw [g5] at e; cases e
          · rw [g5] at e
            rw [put_other _ _ (by intro q; cases q; exact g2 rfl), put_other _ _ (by intro q; cases q; exact g4 rfl), put_other _ _ (by intro q; cases q; exact g6 rfl)]
            exact hT t v e
    · cases hF
noncomputable def F9x (x : Bool) : SpF := fun α h nx k => Option.rec (motive := fun _ => Bool) false (fun v => match v with | .i .i64 _ => k (out α x) h nx | _ => false) (getP (path 0) α)
noncomputable def spx (x : Bool) (id : Nat) : Option SpF := bif Nat.beq id 9 then some (F9x x) else none
theorem reckT (n0 : Int) : evK Tryz.prog cL 100 (spx true) (restC Tryz.f13 4) (setP (some (.i .i64 n0)) (path 0) .lf) .lf .e (finK Tryz.f13) = true := by kernel_rfl
theorem reckF (n0 : Int) : evK Tryz.prog cL 100 (spx false) (restC Tryz.f13 4) (setP (some (.i .i64 n0)) (path 0) .lf) .lf .e (finK Tryz.f13) = true := by kernel_rfl
theorem both9 {nt : Nat} {ops : Array Oper} {d : Bool} {y : Code} (h1 : allR (fun id _ _ => spx true id = none) y) (h2 : allR (fun id _ _ => spx false id = none) y) (h3 : allR (fun id _ _ => sp id = none) y) {K : Rc → Bool} :
    ∀ α h nx, evK Tryz.prog cL nt (spx true) (.seq (.region 9 ops d) y) α h nx K = true → evK Tryz.prog cL nt (spx false) (.seq (.region 9 ops d) y) α h nx K = true → evK Tryz.prog cL nt sp (.seq (.region 9 ops d) y) α h nx K = true := by
  intro α h nx
  show F9x true α h nx (fun tm h nx => evK Tryz.prog cL nt (spx true) y tm h nx K) = true → F9x false α h nx (fun tm h nx => evK Tryz.prog cL nt (spx false) y tm h nx K) = true → F9 α h nx (fun tm h nx => evK Tryz.prog cL nt sp y tm h nx K) = true
  rw [evK_none y h1, evK_none y h2, evK_none y h3]
  unfold F9x F9
  cases getP (path 0) α with
  | none => intro q; cases q
  | some v =>
    simp only
    split
    · intro q1 q2; rw [q1, q2]; rfl
    · intro q; cases q
set_option maxRecDepth 8000 in
theorem walk (w : World) (n0 : Int) (_ : (Lit.int .i64 n0).wf = true) : Calls Tryz.prog 13 #[.int .i64 n0] w fun e w' => e = .returned (.bool true) ∧ Keep NoF w w' := by
  go_enter Tryz.func13, Tryz.ntmps13
  go_wp2_with fail
  refine (begtop w).mono ?_
  rintro e w1 ⟨rfl, hk⟩
  have K1 := Lib.hid hk
  clear hk
  go_upto_region 4 with fail
  refine restK_seq (fn := Tryz.f13) (sp := sp) ?_ (by assumption) K1.out (setP (some (.i .i64 n0)) (path 0) .lf) (of_decide_eq_true (by kernel_rfl)) rfl (TR1 rfl) (by kernel_rfl) ?_
  · simp only [allR_seq, allR_cond, allR_region, allR_skip, allR_ret]
    and_intros
    all_goals first
      | exact trivial
      | exact fun F q => nomatch (show (none : Option SpF) = some F from q)
      | exact fun F q => by cases (show some F9 = some F from q); exact @sp9
  · suffices H : ∀ α h nx, evK Tryz.prog cL 100 (spx true) _ α h nx (finK Tryz.f13) = true → evK Tryz.prog cL 100 (spx false) _ α h nx (finK Tryz.f13) = true → evK Tryz.prog cL 100 sp _ α h nx (finK Tryz.f13) = true from H _ _ _ (reckT n0) (reckF n0)
    repeat first
      | exact both9 (by simp only [allR_seq, allR_cond, allR_region, allR_skip, allR_ret]; and_intros <;> first | exact trivial | rfl) (by simp only [allR_seq, allR_cond, allR_region, allR_skip, allR_ret]; and_intros <;> first | exact trivial | rfl) (by simp only [allR_seq, allR_cond, allR_region, allR_skip, allR_ret]; and_intros <;> first | exact trivial | rfl)
      | refine both_assoc ?_
      | refine both_seq rfl rfl rfl ?_
      | refine both_seq (by simp only [allR_seq, allR_cond, allR_region, allR_skip, allR_ret]; and_intros <;> first | exact trivial | rfl) (by simp only [allR_seq, allR_cond, allR_region, allR_skip, allR_ret]; and_intros <;> first | exact trivial | rfl) (by simp only [allR_seq, allR_cond, allR_region, allR_skip, allR_ret]; and_intros <;> first | exact trivial | rfl) ?_

set_option linter.unusedVariables false
set_option maxRecDepth 100000 in
theorem lifted (os : Os) (started : os.Started) (H : Type) (enc : TypeId × Value → H) :
    ReturnsInHanded {} Tryz.checked os 13 .any (Rows.topStatusSpec.pre6 enc Tryz.prog Tryz.f13 Rows.topStatusRow.domain false) (Rows.topStatusSpec.post enc Tryz.prog Tryz.f13 false true false false) := by
  refine returnsInHanded_of_change (C := Tryz.checked) own started (by kernel_rfl) Tryz.func13
    (ChangeSpec.witness6 (enc := enc) (C := Tryz.checked) false ⟨#[], #[.int .i64 0], []⟩ 8 (by kernel_rfl) (by kernel_rfl) (by kernel_rfl) (by kernel_rfl)) ?_
  intro W base args ds gs before hval0 hW hcnd _
  have hval : ∀ (j : Nat) t v, Tryz.f13.params[j]? = some t → args[j]? = some v → Value.okWide Tryz.prog W .any base t v := hval0
  have hW' := hW
  obtain ⟨p, q, hA0, hV, rfl, hfz, hnd⟩ := hW
  have hA : DataW.TrodAll enc Tryz.prog W 0 (fun _ => true) true Tryz.f13.params.toList args.toList ds p := hA0
  rw [Tryz.params13] at hA hval
  obtain ⟨v0, vs0, d0, ds0, p0, q0, hargs, rfl, rfl, h0, r0⟩ := trodAll_cons hA
  obtain ⟨rfl, rfl, rfl⟩ := trodAll_nil r0
  obtain rfl : args = #[v0] := by cases args; simp_all
  obtain ⟨rfl, rfl⟩ := trodVars_none hV
  obtain ⟨a0, rfl, rfl, rfl, w0⟩ := open_int Tryz.underlying3 (hval 0 3 v0 rfl rfl) h0
  clear hA0 hval0
  refine (walk W a0 w0).mono fun e W' ⟨he, hk⟩ => ?_
  subst he
  have bel := Keep.below hk
  exact ⟨_, rfl, _, _, _, [], _, [], hW', trodAll_mk1 (shut_bool Tryz.underlying4 _), (trodAll_cons_mk (shut_int Tryz.underlying3 w0) trodAll_mk0), rfl, bel.frame _, fun h => by cases h⟩

theorem over : Rows.topStatusRow.holds Tryz.pinned (OpenSpec.ofChange Rows.topStatusSpec) :=
  OpenClaim.holds_of_wide 13 Tryz.f13 rfl rfl rfl rfl rfl rfl rfl ⟨rfl, rfl, rfl, rfl, rfl⟩ rfl rfl rfl rfl rfl facName Tryz.func13 (joined_of facLaid facMaps facPlace facUnf facRec facNamed facKeys facHeard facEnter facLift facMake (by kernel_rfl))
    (of_decide_eq_true (by kernel_rfl)) (by unfold Func.isWrapper; rw [if_neg (of_decide_eq_false (by kernel_rfl))]; exact ⟨rfl, rfl⟩)
    (fun os started H enc _ => lifted os started H enc)

/-- The statement. -/
theorem proved : Rows.TopStatusSaid := over
#print axioms proved
end Go.Proofs.YtkjdclpneaepkaaGreat.topStatus
