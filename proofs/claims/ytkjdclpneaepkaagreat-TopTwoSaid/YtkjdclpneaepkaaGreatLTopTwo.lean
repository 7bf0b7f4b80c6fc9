/- TopTwo: the law returns true and changes nothing that was there. No conditions. -/
import Derived.Test.YtkjdclpneaepkaaGreatTTopTwoA
import Derived.Test.YtkjdclpneaepkaaGreatTTopTwoB
import Derived.Test.YtkjdclpneaepkaaGreatTTopTwoC
import Derived.Test.YtkjdclpneaepkaaGreatTTopTwoD
import Derived.Test.YtkjdclpneaepkaaGreatTTopTwoE
import Derived.Test.YtkjdclpneaepkaaGreatTTopTwoF
import Derived.Deep.CutRange
import Derived.Test.YtkjdclpneaepkaaGreatRows
import Derived.Test.YtkjdclpneaepkaaGreatGTopTwo
import Derived.WalkKit
import Derived.ProofKit
import Derived.OpenShut
import Derived.ShutString
import Derived.ChangeOld
import Derived.Below
namespace Go.Proofs.YtkjdclpneaepkaaGreat.topTwo
open Go Go.ChangeShapes Go.WideShapes Go.ChangeAt Go.RowKit
open Go.ChangeMaps (open_string shut_string)

theorem own : ownKnob Tryz.prog.godebug = none := by kernel_rfl
theorem laidOut : laidOutB Tryz.prog = true := facLaid

set_option linter.unusedVariables false
open Go.Proofs Go.Ev Go.Ev.Ch Go.RowKit Bo
theorem open_arg0 {H : Type} {enc : TypeId × Value → H} {a : Option Addr} {len cap : Nat} {d : DataW H} {p : List MemPlace} (W : World) (_base : Nat)
    (h : DataW.Trod enc Tryz.prog W 0 (fun _ => true) true 22 (.slice a len cap) d p) : ∃ l : List Bool, IsBo W a len cap l := open_bo h
theorem long (off n cap : Nat) : ∀ (y z : Bool) (p : List Bool), p.length = 4 → oneTopTwo y z off n cap p false = true
  | false, z, [false, false, false, false], _ => both_ok (b00000 off n cap) z
  | false, z, [false, false, false, true], _ => both_ok (b00010 off n cap) z
  | false, z, [false, false, true, false], _ => both_ok (b00100 off n cap) z
  | false, z, [false, false, true, true], _ => both_ok (b00110 off n cap) z
  | false, z, [false, true, false, false], _ => both_ok (b01000 off n cap) z
  | false, z, [false, true, false, true], _ => both_ok (b01010 off n cap) z
  | false, z, [false, true, true, false], _ => both_ok (b01100 off n cap) z
  | false, z, [false, true, true, true], _ => both_ok (b01110 off n cap) z
  | false, z, [true, false, false, false], _ => both_ok (b10000 off n cap) z
  | false, z, [true, false, false, true], _ => both_ok (b10010 off n cap) z
  | false, z, [true, false, true, false], _ => both_ok (b10100 off n cap) z
  | false, z, [true, false, true, true], _ => both_ok (b10110 off n cap) z
  | false, z, [true, true, false, false], _ => both_ok (b11000 off n cap) z
  | false, z, [true, true, false, true], _ => both_ok (b11010 off n cap) z
  | false, z, [true, true, true, false], _ => both_ok (b11100 off n cap) z
  | false, z, [true, true, true, true], _ => both_ok (b11110 off n cap) z
  | true, z, [false, false, false, false], _ => both_ok (b00001 off n cap) z
  | true, z, [false, false, false, true], _ => both_ok (b00011 off n cap) z
  | true, z, [false, false, true, false], _ => both_ok (b00101 off n cap) z
  | true, z, [false, false, true, true], _ => both_ok (b00111 off n cap) z
  | true, z, [false, true, false, false], _ => both_ok (b01001 off n cap) z
  | true, z, [false, true, false, true], _ => both_ok (b01011 off n cap) z
  | true, z, [false, true, true, false], _ => both_ok (b01101 off n cap) z
  | true, z, [false, true, true, true], _ => both_ok (b01111 off n cap) z
  | true, z, [true, false, false, false], _ => both_ok (b10001 off n cap) z
  | true, z, [true, false, false, true], _ => both_ok (b10011 off n cap) z
  | true, z, [true, false, true, false], _ => both_ok (b10101 off n cap) z
  | true, z, [true, false, true, true], _ => both_ok (b10111 off n cap) z
  | true, z, [true, true, false, false], _ => both_ok (b11001 off n cap) z
  | true, z, [true, true, false, true], _ => both_ok (b11011 off n cap) z
  | true, z, [true, true, true, false], _ => both_ok (b11101 off n cap) z
  | true, z, [true, true, true, true], _ => both_ok (b11111 off n cap) z
theorem shA (off len cap : Nat) : ∀ y n : Bool, allP 1 1 (fun p => oneTopTwo y n off len cap p true) = true
  | false, false => s001 off len cap
  | false, true => s011 off len cap
  | true, false => s101 off len cap
  | true, true => s111 off len cap
theorem shB (off len cap : Nat) : ∀ y n : Bool, allP 2 2 (fun p => oneTopTwo y n off len cap p true) = true
  | false, false => s002 off len cap
  | false, true => s012 off len cap
  | true, false => s102 off len cap
  | true, true => s112 off len cap
theorem shC (off len cap : Nat) : ∀ y n : Bool, ∀ q : List Bool, q.length = 1 → allL 2 (fun p => oneTopTwo y n off len cap p true) q = true
  | false, false, [false], _ => s0030 off len cap
  | false, false, [true], _ => s0031 off len cap
  | false, true, [false], _ => s0130 off len cap
  | false, true, [true], _ => s0131 off len cap
  | true, false, [false], _ => s1030 off len cap
  | true, false, [true], _ => s1031 off len cap
  | true, true, [false], _ => s1130 off len cap
  | true, true, [true], _ => s1131 off len cap
theorem pick (y n : Bool) (off len cap : Nat) (l : List Bool) (h0 : 0 < l.length) : ∃ p ex, p <+: l ∧ (ex = true → p.length = l.length) ∧ oneTopTwo y n off len cap p ex = true := by
  rcases Nat.lt_or_ge l.length 2 with h | h
  · exact ⟨l, true, List.prefix_refl _, fun _ => rfl, allP_ok (shA off len cap y n) l (by omega) (by omega)⟩
  rcases Nat.lt_or_ge l.length 3 with h | h
  · exact ⟨l, true, List.prefix_refl _, fun _ => rfl, allP_ok (shB off len cap y n) l (by omega) (by omega)⟩
  rcases Nat.lt_or_ge l.length 4 with h | h
  · refine ⟨l, true, List.prefix_refl _, fun _ => rfl, ?_⟩
    have q := allL_ok 2 _ (shC off len cap y n (l.take 1) (by rw [List.length_take]; omega)) (l.drop 1) (by rw [List.length_drop]; omega)
    rw [List.take_append_drop] at q; exact q
  exact ⟨l.take 4, false, List.take_prefix _ _, fun q => (by cases q), long off len cap y n _ (by rw [List.length_take]; omega)⟩
set_option maxRecDepth 8000 in
theorem walk (w : World) (ao : Option Addr) (len cap : Nat) (l : List Bool) (h : IsBo w ao len cap l) (y n : Bool) : Calls Tryz.prog 8 #[.slice ao len cap, .bool y, .bool n] w fun e w' => e = .returned (.bool true) ∧ Keep NoF w w' := by
  go_enter Tryz.func8, Tryz.ntmps8
  go_wp2_with fail
  refine (begtop w).mono ?_
  rintro e w1 ⟨rfl, hk⟩
  have K1 := Lib.hid hk
  clear hk
  go_upto_region 4 with fail
  cases h with
  | nil => exact rest_D (fn := Tryz.f8) (by assumption) K1.out (setP (some (.b n)) (path 2) (setP (some (.b y)) (path 1) (setP (some .ns) (path 0) .lf))) (of_decide_eq_true (by kernel_rfl)) rfl (TR2 (TR2 (TR1 rfl) rfl) rfl) (by kernel_rfl) (both_ok (nil2 y) n)
  | emp x c => exact rest_D (fn := Tryz.f8) (by assumption) K1.out (setP (some (.b n)) (path 2) (setP (some (.b y)) (path 1) (setP (some .se) (path 0) .lf))) (of_decide_eq_true (by kernel_rfl)) rfl (TR2 (TR2 (TR1 ⟨x, cap, rfl⟩) rfl) rfl) (by kernel_rfl) (both_ok (se2 y) n)
  | row g off c l hl lt hc =>
    obtain ⟨p, ex, hp, hex, hone⟩ := pick y n off l.length cap l hl
    refine rest_G (fn := Tryz.f8) (sp := spTopTwo p ex) (Ag := ⟨g, off, cap, l⟩) (p := p) (ex := ex) ?_ ?_ (by assumption) K1.out (Nat.lt_of_lt_of_le lt K1.out.size) (fun i hi => K1.out.cell' (hc i hi) (fun q => q)) hp hex (αTwo y n off l.length cap) rfl (of_decide_eq_true (by kernel_rfl)) rfl (TR2 (TR2 (TR1 ⟨g, 0, ren_e g, rfl⟩) rfl) rfl) (by kernel_rfl) hone
    · kernel_rfl
    · simp only [allR_seq, allR_cond, allR_block, allR_loop, allR_region, allR_skip, allR_ret, allR_exit]
      and_intros
      all_goals first
        | exact trivial
        | exact fun F q => nomatch (show (none : Option (SpF (List Bool))) = some F from q)
        | exact fun F q => by cases (show some (FtestN [0, 1, 2, 8, 10, 12, 13, 14] p ex 48 14 6) = some F from q); exact FtestN_ok (by decide) (test_ok (b := 48) (ib := 14) (K := 6) (by decide) (by decide) (by decide))
        | exact fun F q => by cases (show some (Fload 59 14) = some F from q); exact Cg.SpOk.of (load_ok (b := 59) (ib := 14) (by decide) (by decide) (by decide))

set_option linter.unusedVariables false
set_option maxRecDepth 100000 in
theorem lifted (os : Os) (started : os.Started) (H : Type) (enc : TypeId × Value → H) :
    ReturnsInHanded {} Tryz.checked os 8 .any (Rows.topTwoSpec.pre6 enc Tryz.prog Tryz.f8 Rows.topTwoRow.domain false) (Rows.topTwoSpec.post enc Tryz.prog Tryz.f8 false true false false) := by
  refine returnsInHanded_of_change (C := Tryz.checked) own started (by kernel_rfl) Tryz.func8
    (ChangeSpec.witness6 (enc := enc) (C := Tryz.checked) false ⟨#[], #[.slice none 0 0, .bool false, .bool false], []⟩ 8 (by kernel_rfl) (by kernel_rfl) (by kernel_rfl) (by kernel_rfl)) ?_
  intro W base args ds gs before hval0 hW hcnd _
  have hval : ∀ (j : Nat) t v, Tryz.f8.params[j]? = some t → args[j]? = some v → Value.okWide Tryz.prog W .any base t v := hval0
  have hW' := hW
  obtain ⟨p, q, hA0, hV, rfl, hfz, hnd⟩ := hW
  have hA : DataW.TrodAll enc Tryz.prog W 0 (fun _ => true) true Tryz.f8.params.toList args.toList ds p := hA0
  rw [Tryz.params8] at hA hval
  obtain ⟨v0, vs0, d0, ds0, p0, q0, hargs, rfl, rfl, h0, r0⟩ := trodAll_cons hA
  obtain ⟨v1, vs1, d1, ds1, p1, q1, rfl, rfl, rfl, h1, r1⟩ := trodAll_cons r0
  obtain ⟨v2, vs2, d2, ds2, p2, q2, rfl, rfl, rfl, h2, r2⟩ := trodAll_cons r1
  obtain ⟨rfl, rfl, rfl⟩ := trodAll_nil r2
  obtain rfl : args = #[v0, v1, v2] := by cases args; simp_all
  obtain ⟨rfl, rfl⟩ := trodVars_none hV
  obtain ⟨a0, len0, cap0, rfl⟩ := okWide_slice Tryz.underlying22 (hval 0 22 v0 rfl rfl)
  have k0 := h0
  have lt0 : ∀ x ∈ p0, x.block < W.heap.size := by obtain ⟨m, hm⟩ := k0; exact DataW.trod_lt m _ _ _ hm
  obtain ⟨z0, w0⟩ := open_arg0 W base h0
  obtain ⟨a1, rfl, rfl, rfl⟩ := open_bool Tryz.underlying4 (hval 1 4 v1 rfl rfl) h1
  obtain ⟨a2, rfl, rfl, rfl⟩ := open_bool Tryz.underlying4 (hval 2 4 v2 rfl rfl) h2
  clear hA0 hval0
  refine (walk W a0 len0 cap0 z0 w0 a1 a2).mono fun e W' ⟨he, hk⟩ => ?_
  subst he
  have bel := Keep.below hk
  exact ⟨_, rfl, _, _, _, [], _, [], hW', trodAll_mk1 (shut_bool Tryz.underlying4 _), (trodAll_cons_mk (Below.trod laidOut (by kernel_rfl) (of_decide_eq_true (by kernel_rfl)) k0 bel lt0) (trodAll_cons_mk (shut_bool Tryz.underlying4 a1) (trodAll_cons_mk (shut_bool Tryz.underlying4 a2) trodAll_mk0))), rfl, bel.frame _, fun h => by cases h⟩

theorem over : Rows.topTwoRow.holds Tryz.pinned (OpenSpec.ofChange Rows.topTwoSpec) :=
  OpenClaim.holds_of_wide 8 Tryz.f8 rfl rfl rfl rfl rfl rfl rfl ⟨rfl, rfl, rfl, rfl, rfl⟩ rfl rfl rfl rfl rfl facName Tryz.func8 (joined_of facLaid facMaps facPlace facUnf facRec facNamed facKeys facHeard facEnter facLift facMake (by kernel_rfl))
    (of_decide_eq_true (by kernel_rfl)) (by unfold Func.isWrapper; rw [if_neg (of_decide_eq_false (by kernel_rfl))]; exact ⟨rfl, rfl⟩)
    (fun os started H enc _ => lifted os started H enc)

/-- The statement. -/
theorem proved : Rows.TopTwoSaid := over
#print axioms proved
end Go.Proofs.YtkjdclpneaepkaaGreat.topTwo
