/- TopOrder: the law returns true and changes nothing that was there. No conditions. -/
import Derived.Test.YtkjdclpneaepkaaGreatTTopOrderA
import Derived.Test.YtkjdclpneaepkaaGreatTTopOrderB
import Derived.Test.YtkjdclpneaepkaaGreatTTopOrderC
import Derived.Test.YtkjdclpneaepkaaGreatTTopOrderD
import Derived.Test.YtkjdclpneaepkaaGreatTTopOrderE
import Derived.Test.YtkjdclpneaepkaaGreatTTopOrderF
import Derived.Deep.CutRange
import Derived.Test.YtkjdclpneaepkaaGreatRows
import Derived.Test.YtkjdclpneaepkaaGreatGTopOrder
import Derived.WalkKit
import Derived.ProofKit
import Derived.OpenShut
import Derived.ShutString
import Derived.ChangeOld
import Derived.Below
namespace Go.Proofs.YtkjdclpneaepkaaGreat.topOrder
open Go Go.ChangeShapes Go.WideShapes Go.ChangeAt Go.RowKit
open Go.ChangeMaps (open_string shut_string)

theorem own : ownKnob Tryz.prog.godebug = none := by kernel_rfl
theorem laidOut : laidOutB Tryz.prog = true := facLaid

open Go.Proofs Go.Ev Go.Ev.Ch Go.RowKit Bo
theorem open_arg0 {H : Type} {enc : TypeId × Value → H} {a : Option Addr} {len cap : Nat} {d : DataW H} {p : List MemPlace} (W : World) (_base : Nat)
    (h : DataW.Trod enc Tryz.prog W 0 (fun _ => true) true 22 (.slice a len cap) d p) : ∃ l : List Bool, IsBo W a len cap l := open_bo h
theorem long (off n cap : Nat) : ∀ p : List Bool, p.length = 4 → oneTopOrder off n cap p false = true
  | [false, false, false, false], _ => b0000TopOrder off n cap
  | [false, false, false, true], _ => b0001TopOrder off n cap
  | [false, false, true, false], _ => b0010TopOrder off n cap
  | [false, false, true, true], _ => b0011TopOrder off n cap
  | [false, true, false, false], _ => b0100TopOrder off n cap
  | [false, true, false, true], _ => b0101TopOrder off n cap
  | [false, true, true, false], _ => b0110TopOrder off n cap
  | [false, true, true, true], _ => b0111TopOrder off n cap
  | [true, false, false, false], _ => b1000TopOrder off n cap
  | [true, false, false, true], _ => b1001TopOrder off n cap
  | [true, false, true, false], _ => b1010TopOrder off n cap
  | [true, false, true, true], _ => b1011TopOrder off n cap
  | [true, true, false, false], _ => b1100TopOrder off n cap
  | [true, true, false, true], _ => b1101TopOrder off n cap
  | [true, true, true, false], _ => b1110TopOrder off n cap
  | [true, true, true, true], _ => b1111TopOrder off n cap
theorem pick (off n cap : Nat) (l : List Bool) (h0 : 0 < l.length) : ∃ p ex, p <+: l ∧ (ex = true → p.length = l.length) ∧ oneTopOrder off n cap p ex = true := by
  rcases Nat.lt_or_ge l.length 3 with h | h
  · exact ⟨l, true, List.prefix_refl _, fun _ => rfl, allP_ok (shortTopOrder1 off n cap) l (by omega) (by omega)⟩
  rcases Nat.lt_or_ge l.length 4 with h | h
  · exact ⟨l, true, List.prefix_refl _, fun _ => rfl, allP_ok (shortTopOrder3 off n cap) l (by omega) (by omega)⟩
  exact ⟨l.take 4, false, List.take_prefix _ _, fun q => (by cases q), long off n cap _ (by rw [List.length_take]; omega)⟩
set_option maxRecDepth 8000 in
theorem walk (w : World) (ao : Option Addr) (len cap : Nat) (l : List Bool) (h : IsBo w ao len cap l) : Calls Tryz.prog 3 #[.slice ao len cap] w fun e w' => e = .returned (.bool true) ∧ Keep NoF w w' := by
  go_enter Tryz.func3, Tryz.ntmps3
  go_wp2_with fail
  refine (begtop w).mono ?_
  rintro e w1 ⟨rfl, hk⟩
  have K1 := Lib.hid hk
  clear hk
  go_upto_region 4 with fail
  cases h with
  | nil => exact rest_D (fn := Tryz.f3) (by assumption) K1.out (setP (some .ns) (path 0) .lf) (of_decide_eq_true (by kernel_rfl)) rfl (TR1 rfl) (by kernel_rfl) nilTopOrder
  | emp x c => exact rest_D (fn := Tryz.f3) (by assumption) K1.out (setP (some .se) (path 0) .lf) (of_decide_eq_true (by kernel_rfl)) rfl (TR1 ⟨x, cap, rfl⟩) (by kernel_rfl) seTopOrder
  | row g off c l hl lt hc =>
    obtain ⟨p, ex, hp, hex, hone⟩ := pick off l.length cap l hl
    refine rest_C (fn := Tryz.f3) (sp := spTopOrder p ex) (Ag := ⟨g, off, cap, l⟩) (p := p) (ex := ex) ?_ ?_ (by assumption) K1.out (Nat.lt_of_lt_of_le lt K1.out.size) (fun i hi => K1.out.cell' (hc i hi) (fun q => q)) hp hex (α0 off l.length cap) (get_set _ _ _) (of_decide_eq_true (by kernel_rfl)) rfl (TR1 ⟨g, 0, ren_e g, rfl⟩) (by kernel_rfl) hone
    · kernel_rfl
    · simp only [allR_seq, allR_cond, allR_block, allR_loop, allR_region, allR_skip, allR_ret, allR_exit]
      and_intros
      all_goals first
        | exact trivial
        | exact fun F q => nomatch (show (none : Option (SpF (List Bool))) = some F from q)
        | exact fun F q => by cases (show some (Ftest p ex 30 11 6) = some F from q); exact test_ok (b := 30) (ib := 11) (K := 6) (by decide) (by decide) (by decide)
        | exact fun F q => by cases (show some (Fload 41 11) = some F from q); exact load_ok (b := 41) (ib := 11) (by decide) (by decide) (by decide)
        | exact fun F q => by cases (show some (Fload 63 13) = some F from q); exact load_ok (b := 63) (ib := 13) (by decide) (by decide) (by decide)
        | exact fun F q => by cases (show some (Floadn 93 15) = some F from q); exact loadn_ok (b := 93) (ib := 15) (by decide) (by decide) (by decide)

set_option linter.unusedVariables false
set_option maxRecDepth 100000 in
theorem lifted (os : Os) (started : os.Started) (H : Type) (enc : TypeId × Value → H) :
    ReturnsInHanded {} Tryz.checked os 3 .any (Rows.topOrderSpec.pre6 enc Tryz.prog Tryz.f3 Rows.topOrderRow.domain false) (Rows.topOrderSpec.post enc Tryz.prog Tryz.f3 false true false false) := by
  refine returnsInHanded_of_change (C := Tryz.checked) own started (by kernel_rfl) Tryz.func3
    (ChangeSpec.witness6 (enc := enc) (C := Tryz.checked) false ⟨#[], #[.slice none 0 0], []⟩ 8 (by kernel_rfl) (by kernel_rfl) (by kernel_rfl) (by kernel_rfl)) ?_
  intro W base args ds gs before hval0 hW hcnd _
  have hval : ∀ (j : Nat) t v, Tryz.f3.params[j]? = some t → args[j]? = some v → Value.okWide Tryz.prog W .any base t v := hval0
  have hW' := hW
  obtain ⟨p, q, hA0, hV, rfl, hfz, hnd⟩ := hW
  have hA : DataW.TrodAll enc Tryz.prog W 0 (fun _ => true) true Tryz.f3.params.toList args.toList ds p := hA0
  rw [Tryz.params3] at hA hval
  obtain ⟨v0, vs0, d0, ds0, p0, q0, hargs, rfl, rfl, h0, r0⟩ := trodAll_cons hA
  obtain ⟨rfl, rfl, rfl⟩ := trodAll_nil r0
  obtain rfl : args = #[v0] := by cases args; simp_all
  obtain ⟨rfl, rfl⟩ := trodVars_none hV
  obtain ⟨a0, len0, cap0, rfl⟩ := okWide_slice Tryz.underlying22 (hval 0 22 v0 rfl rfl)
  have k0 := h0
  have lt0 : ∀ x ∈ p0, x.block < W.heap.size := by obtain ⟨m, hm⟩ := k0; exact DataW.trod_lt m _ _ _ hm
  obtain ⟨z0, w0⟩ := open_arg0 W base h0
  clear hA0 hval0
  refine (walk W a0 len0 cap0 z0 w0).mono fun e W' ⟨he, hk⟩ => ?_
  subst he
  have bel := Keep.below hk
  exact ⟨_, rfl, _, _, _, [], _, [], hW', trodAll_mk1 (shut_bool Tryz.underlying4 _), (trodAll_cons_mk (Below.trod laidOut (by kernel_rfl) (of_decide_eq_true (by kernel_rfl)) k0 bel lt0) trodAll_mk0), rfl, bel.frame _, fun h => by cases h⟩

theorem over : Rows.topOrderRow.holds Tryz.pinned (OpenSpec.ofChange Rows.topOrderSpec) :=
  OpenClaim.holds_of_wide 3 Tryz.f3 rfl rfl rfl rfl rfl rfl rfl ⟨rfl, rfl, rfl, rfl, rfl⟩ rfl rfl rfl rfl rfl facName Tryz.func3 (joined_of facLaid facMaps facPlace facUnf facRec facNamed facKeys facHeard facEnter facLift facMake (by kernel_rfl))
    (of_decide_eq_true (by kernel_rfl)) (by unfold Func.isWrapper; rw [if_neg (of_decide_eq_false (by kernel_rfl))]; exact ⟨rfl, rfl⟩)
    (fun os started H enc _ => lifted os started H enc)

/-- The statement. -/
theorem proved : Rows.TopOrderSaid := over
#print axioms proved
end Go.Proofs.YtkjdclpneaepkaaGreat.topOrder
