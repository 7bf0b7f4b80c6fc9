/- TopChainOf: the law returns true and changes nothing that was there. No conditions. -/
import Derived.Test.YtkjdclpneaepkaaGreatTTopChainOfA
import Derived.Test.YtkjdclpneaepkaaGreatTTopChainOfB
import Derived.Test.YtkjdclpneaepkaaGreatTTopChainOfC
import Derived.Test.YtkjdclpneaepkaaGreatTTopChainOfD
import Derived.Deep.CutRange
import Derived.Test.YtkjdclpneaepkaaGreatRows
import Derived.Test.YtkjdclpneaepkaaGreatGTopChainOf
import Derived.WalkKit
import Derived.ProofKit
import Derived.OpenShut
import Derived.ShutString
import Derived.ChangeOld
import Derived.Below
namespace Go.Proofs.YtkjdclpneaepkaaGreat.topChainOf
open Go Go.ChangeShapes Go.WideShapes Go.ChangeAt Go.RowKit
open Go.ChangeMaps (open_string shut_string)

theorem own : ownKnob Tryz.prog.godebug = none := by kernel_rfl
theorem laidOut : laidOutB Tryz.prog = true := facLaid

set_option linter.unusedVariables false
open Go.Proofs Go.Ev Go.RowKit Bo
theorem all (b k : Nat) (h : b < 3) (h' : k < 3) : (b = 2 ∧ k = 2) ∨ oneTopChainOf b k = true := by
  match b, k, h, h' with
  | 0, 0, _, _ => exact .inr c00
  | 0, 1, _, _ => exact .inr c01
  | 0, 2, _, _ => exact .inr c02
  | 1, 0, _, _ => exact .inr c10
  | 1, 1, _, _ => exact .inr c11
  | 1, 2, _, _ => exact .inr c12
  | 2, 0, _, _ => exact .inr c20
  | 2, 1, _, _ => exact .inr c21
  | 2, 2, _, _ => exact .inl ⟨rfl, rfl⟩
theorem ten {b1 b2 b3 b4 b5 b6 b7 b8 b9 b10 x y : Bool} (h : Cg.ifV b1 (Cg.ifV b2 (Cg.ifV b3 (Cg.ifV b4 (Cg.ifV b5 (Cg.ifV b6 (Cg.ifV b7 (Cg.ifV b8 (Cg.ifV b9 (Cg.ifV b10 x false) false) false) false) false) false) false) false) false) false = y) (h1 : b1 = true) (h2 : b2 = true) (h3 : b3 = true) (h4 : b4 = true) (h5 : b5 = true) (h6 : b6 = true) (h7 : b7 = true) (h8 : b8 = true) (h9 : b9 = true) (h10 : b10 = true) : x = y := by subst h1 h2 h3 h4 h5 h6 h7 h8 h9 h10; exact h
theorem mids : (isNx q1 = true ∧ isNx q2 = true ∧ isNx q3 = true ∧ isNx q4 = true ∧ isNx w1 = true ∧ isNx w2 = true ∧ isNx w3 = true ∧ isNx w4 = true ∧ isNx w5 = true ∧ isNx w6 = true) ∧ ∀ k : T AV → Hp → Pa → Bool, Cg.gcK [0, 1, 6, 7, 8] (rA w6) (rH w6) k = k litF litH litN := by
  have h0 : mid (fun _ _ _ => true) = true := midA _
  unfold mid at h0
  obtain ⟨h1, h0⟩ := Cg.ifV_ok h0
  obtain ⟨h2, h0⟩ := Cg.ifV_ok h0
  obtain ⟨h3, h0⟩ := Cg.ifV_ok h0
  obtain ⟨h4, h0⟩ := Cg.ifV_ok h0
  obtain ⟨h5, h0⟩ := Cg.ifV_ok h0
  obtain ⟨h6, h0⟩ := Cg.ifV_ok h0
  obtain ⟨h7, h0⟩ := Cg.ifV_ok h0
  obtain ⟨h8, h0⟩ := Cg.ifV_ok h0
  obtain ⟨h9, h0⟩ := Cg.ifV_ok h0
  obtain ⟨h10, h0⟩ := Cg.ifV_ok h0
  refine ⟨⟨h1, h2, h3, h4, h5, h6, h7, h8, h9, h10⟩, fun k => ?_⟩
  have h := midA k
  unfold mid at h
  exact ten h h1 h2 h3 h4 h5 h6 h7 h8 h9 h10
set_option maxRecDepth 100000 in
theorem leaf22 {K : Act → World → Prop} {a : Act} {w0 w : World} (hK : ∀ a w, Code.wp Tryz.prog (sR CC) (bodyPost Tryz.prog Tryz.f9 fun x w' => x = .returned (.bool true) ∧ Keep NoF w0 w') a w → K a w) (K1 : Keep NoF w0 w) (hn : 102 ≤ a.tmps.size) (hd : a.defers = [])
    (hT : TR (fun _ => none) (setP (some (.i .i64 (.ofNat (Nat.add 1 2)))) (path 1) (setP (some (.i .i64 (.ofNat (Nat.add 2 2)))) (path 0) .lf)) a.tmps) : Code.wp Tryz.prog (sL CC) (Exit.then K (bodyPost Tryz.prog Tryz.f9 fun x w' => x = .returned (.bool true) ∧ Keep NoF w0 w')) a w := by
  obtain ⟨⟨h1, h2, h3, h4, h5, h6, h7, h8, h9, h10⟩, hA⟩ := mids
  have c0 : At w0 102 q0 a w := At.start K1 hn hd hT
  refine At.first c0 h1 fun a1 w1 c1 => hK _ _ ?_
  show (Code.seq (sL (sR CC)) (sR (sR CC))).wp _ _ _ _
  refine At.seq c1 h2 fun a2 w2 c2 => ?_
  show (Code.seq (sL (sR (sR CC))) (sR (sR (sR CC)))).wp _ _ _ _
  refine At.seq c2 h3 fun a3 w3 c3 => ?_
  show (Code.seq (.seq (sL (sL (sR (sR (sR CC))))) (.block 0 (.loop X9))) Z9).wp _ _ _ _
  refine wp_seq (At.seq c3 h4 fun a4 w4 c4 => ?_)
  refine wp_block (wp_loop_rounds 56 ?_)
  refine At.round c4 h5 fun a5 w5 c5 => ?_
  refine At.round c5 h6 fun a6 w6 c6 => ?_
  refine At.round c6 h7 fun a7 w7 c7 => ?_
  refine At.round c7 h8 fun a8 w8 c8 => ?_
  refine At.round c8 h9 fun a9 w9 c9 => ?_
  refine At.round c9 h10 fun a10 w10 c10 => ?_
  exact At.loop (c10.lit hA) (by kernel_rfl) midB
set_option maxRecDepth 8000 in
theorem walk (w : World) (n0 : Int) (hn0 : (Lit.int .i64 n0).wf = true) (m0 : Int) (hm0 : (Lit.int .i64 m0).wf = true) : Calls Tryz.prog 9 #[.int .i64 n0, .int .i64 m0] w fun e w' => e = .returned (.bool true) ∧ Keep NoF w w' := by
  go_enter Tryz.func9, Tryz.ntmps9
  go_wp2_with fail
  refine (begtop w).mono ?_
  rintro e w1 ⟨rfl, hk⟩
  have K1 := Lib.hid hk
  clear hk
  go_wp2_with fail
  refine (small_any n0 hn0 3 (by omega) (by omega) w1).mono ?_
  rintro e w' ⟨r, hr, rfl, hw⟩
  obtain rfl : w1 = w' := hw.symm
  have hw1 : IntKind.i64.wrap (2 + (r : Int)) = ((Nat.add 2 r : Nat) : Int) := by rw [IntWalk.i64_in _ (by omega)]; show _ = ((2 + r : Nat) : Int); omega
  go_wp2_with fail
  refine (small_any m0 hm0 3 (by omega) (by omega) w1).mono ?_
  rintro e w' ⟨q, hq, rfl, hw⟩
  obtain rfl : w1 = w' := hw.symm
  have hw2 : IntKind.i64.wrap (1 + (q : Int)) = ((Nat.add 1 q : Nat) : Int) := by rw [IntWalk.i64_in _ (by omega)]; show _ = ((1 + q : Nat) : Int); omega
  go_upto_region 5 with fail
  have q22 : (r = 2 ∧ q = 2) ∨ oneTopChainOf r q = true := all r q hr hq
  rcases q22 with ⟨rfl, rfl⟩ | q22
  · exact leaf22 (by assumption) K1.out (of_decide_eq_true (by kernel_rfl)) rfl (TR2 (TR1 rfl) rfl)
  · exact rest_Y (fn := Tryz.f9) (by assumption) K1.out (setP (some (.i .i64 (.ofNat (Nat.add 1 q)))) (path 1) (setP (some (.i .i64 (.ofNat (Nat.add 2 r)))) (path 0) .lf)) (of_decide_eq_true (by kernel_rfl)) rfl (TR2 (TR1 rfl) rfl) (by kernel_rfl) q22

set_option linter.unusedVariables false
set_option maxRecDepth 100000 in
theorem lifted (os : Os) (started : os.Started) (H : Type) (enc : TypeId × Value → H) :
    ReturnsInHanded {} Tryz.checked os 9 .any (Rows.topChainOfSpec.pre6 enc Tryz.prog Tryz.f9 Rows.topChainOfRow.domain false) (Rows.topChainOfSpec.post enc Tryz.prog Tryz.f9 false true false false) := by
  refine returnsInHanded_of_change (C := Tryz.checked) own started (by kernel_rfl) Tryz.func9
    (ChangeSpec.witness6 (enc := enc) (C := Tryz.checked) false ⟨#[], #[.int .i64 0, .int .i64 0], []⟩ 8 (by kernel_rfl) (by kernel_rfl) (by kernel_rfl) (by kernel_rfl)) ?_
  intro W base args ds gs before hval0 hW hcnd _
  have hval : ∀ (j : Nat) t v, Tryz.f9.params[j]? = some t → args[j]? = some v → Value.okWide Tryz.prog W .any base t v := hval0
  have hW' := hW
  obtain ⟨p, q, hA0, hV, rfl, hfz, hnd⟩ := hW
  have hA : DataW.TrodAll enc Tryz.prog W 0 (fun _ => true) true Tryz.f9.params.toList args.toList ds p := hA0
  rw [Tryz.params9] at hA hval
  obtain ⟨v0, vs0, d0, ds0, p0, q0, hargs, rfl, rfl, h0, r0⟩ := trodAll_cons hA
  obtain ⟨v1, vs1, d1, ds1, p1, q1, rfl, rfl, rfl, h1, r1⟩ := trodAll_cons r0
  obtain ⟨rfl, rfl, rfl⟩ := trodAll_nil r1
  obtain rfl : args = #[v0, v1] := by cases args; simp_all
  obtain ⟨rfl, rfl⟩ := trodVars_none hV
  obtain ⟨a0, rfl, rfl, rfl, w0⟩ := open_int Tryz.underlying3 (hval 0 3 v0 rfl rfl) h0
  obtain ⟨a1, rfl, rfl, rfl, w1⟩ := open_int Tryz.underlying3 (hval 1 3 v1 rfl rfl) h1
  clear hA0 hval0
  refine (walk W a0 w0 a1 w1).mono fun e W' ⟨he, hk⟩ => ?_
  subst he
  have bel := Keep.below hk
  exact ⟨_, rfl, _, _, _, [], _, [], hW', trodAll_mk1 (shut_bool Tryz.underlying4 _), (trodAll_cons_mk (shut_int Tryz.underlying3 w0) (trodAll_cons_mk (shut_int Tryz.underlying3 w1) trodAll_mk0)), rfl, bel.frame _, fun h => by cases h⟩

theorem over : Rows.topChainOfRow.holds Tryz.pinned (OpenSpec.ofChange Rows.topChainOfSpec) :=
  OpenClaim.holds_of_wide 9 Tryz.f9 rfl rfl rfl rfl rfl rfl rfl ⟨rfl, rfl, rfl, rfl, rfl⟩ rfl rfl rfl rfl rfl facName Tryz.func9 (joined_of facLaid facMaps facPlace facUnf facRec facNamed facKeys facHeard facEnter facLift facMake (by kernel_rfl))
    (of_decide_eq_true (by kernel_rfl)) (by unfold Func.isWrapper; rw [if_neg (of_decide_eq_false (by kernel_rfl))]; exact ⟨rfl, rfl⟩)
    (fun os started H enc _ => lifted os started H enc)

/-- The statement. -/
theorem proved : Rows.TopChainOfSaid := over
#print axioms proved
end Go.Proofs.YtkjdclpneaepkaaGreat.topChainOf
