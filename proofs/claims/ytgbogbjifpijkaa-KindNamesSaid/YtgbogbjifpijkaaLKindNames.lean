/- KindNames: the law returns true and changes nothing that was there. No conditions. -/
import Derived.Test.YtgbogbjifpijkaaLaw8
import Derived.Test.YtgbogbjifpijkaaRows
import Derived.WalkKit
import Derived.ProofKit
import Derived.OpenShut
import Derived.ShutString
import Derived.ChangeOld
import Derived.Below
namespace Go.Proofs.Ytgbogbjifpijkaa.kindNames
open Go Go.ChangeShapes Go.WideShapes Go.ChangeAt Go.RowKit
open Go.ChangeMaps (open_string shut_string)

theorem own : ownKnob Try.prog.godebug = none := by kernel_rfl
theorem laidOut : laidOutB Try.prog = true := by kernel_rfl

theorem one_cat (s : ByteArray) (x : UInt8) : (s ++ bstr [x]).size = s.size + 1 := by rw [ByteArray.size_append, bstr_size]; rfl

set_option maxHeartbeats 4000000 in
theorem walk (w : World) (s0 : ByteArray) (_hs0 : s0.size ≤ maxLen) (x0 : Int) (hx : (Lit.int .u8 x0).wf = true) (n : Int) (hn : (Lit.int .i64 n).wf = true) :
    Calls Try.prog 3 #[.string s0, .int .u8 x0, .int .i64 n] w fun e w' => e = .returned (.bool true) ∧ Keep NoF w w' := by
  have bn := bounds_i64 hn
  obtain ⟨x, hxb⟩ := u8_of (bounds_u8 hx)
  subst hxb
  have hx8 := x.toNat_lt
  have hsz := cutT_size s0 70
  obtain ⟨s, hs⟩ : ∃ s, cutT s0 70 = s := ⟨_, rfl⟩
  have hcut := fun W => cut_any s0 70 W (by decide)
  rw [hs] at hsz hcut
  have HCUT := Lib.hid hcut
  clear hn hx hs hcut
  have hcv : ∀ W : World, (convert 24 9 (.slice (some ⟨W.heap.size, 0, none⟩) 1 1)).run Try.prog (W.alloc (.cells #[.int .u8 x.toNat] 5)) = .ok (.string (bstr [x])) (W.alloc (.cells #[.int .u8 x.toNat] 5)) := fun W =>
    run_convert_SlB (P := Try.prog) (SlB.new W [x] 5 (0, 0) (by unfold maxLen; simp)) (src := 24) (dst := 9) Try.underlying24 Try.underlying5 Try.underlying9
  have hcz := one_cat s x
  have hcs : (bstr [x]).size = 1 := by rw [bstr_size]; rfl
  have HCZ := Lib.hid hcz; have HCV := Lib.hid hcv
  clear hcz
  go_enter Try.func3, Try.ntmps3
  go_wp2_with fail
  refine (begun8_any w).mono ?_
  rintro e w1 ⟨rfl, hk⟩
  have K1 := Lib.hid hk; clear hk
  go_wp2_with fail
  refine (HCUT.out w1).mono ?_
  rintro e w2 ⟨rfl, rfl⟩
  have hcv2 := HCV.out w2
  go_wp2_with fail
  have HK2 : Hid (Keep NoF w (w2.alloc (.cells #[.int .u8 x.toNat] 5))) := Lib.hid (K1.out.alloc _)
  generalize w2.alloc (.cells #[.int .u8 x.toNat] 5) = W3 at HK2 ⊢
  obtain ⟨t, ht⟩ : ∃ t, s ++ bstr [x] = t := ⟨_, rfl⟩
  have htz : t.size ≤ 71 := by rw [← ht, HCZ.out]; omega
  rw [ht]
  clear ht hcv2 hcs
  have hsM : s.size ≤ maxLen := by unfold maxLen; omega
  have htM : t.size ≤ maxLen := by unfold maxLen; omega
  have HSM := Lib.hid hsM; have HTM := Lib.hid htM
  clear hsM htM
  refine (kqueue_any s W3 HSM.out).mono ?_
  rintro e w4 ⟨rfl, rfl⟩
  go_wp2_with fail
  refine (rqueue_any s w4 HSM.out).mono ?_
  rintro e w5 ⟨rfl, rfl⟩
  go_wp2_with fail
  refine (kqueue_any t w5 HTM.out).mono ?_
  rintro e w6 ⟨rfl, rfl⟩
  go_wp2_with fail
  refine (rqueue_any t w6 HTM.out).mono ?_
  rintro e w7 ⟨rfl, rfl⟩
  go_wp2_with fail
  refine (kbody_any s w7).mono ?_
  rintro e w8 ⟨rfl, rfl⟩
  go_wp2_with fail
  refine (rbody_any s w8).mono ?_
  rintro e w9 ⟨rfl, rfl⟩
  go_wp2_with fail
  refine (kbody_any t w9).mono ?_
  rintro e w10 ⟨rfl, rfl⟩
  go_wp2_with fail
  refine (rbody_any t w10).mono ?_
  rintro e w11 ⟨rfl, rfl⟩
  go_wp2_with fail
  refine (kbroker_any n w11).mono ?_
  rintro e w12 ⟨rfl, rfl⟩
  go_wp2_with fail
  refine (rbroker_any n w12).mono ?_
  rintro e w13 ⟨rfl, rfl⟩
  go_wp2_with fail
  refine (kput_any ⟨s, t⟩ w13 HSM.out).mono ?_
  rintro e w14 ⟨rfl, hk14⟩
  have K14 := Lib.hid hk14; clear hk14
  go_wp2_with fail
  refine (rput_any ⟨s, t⟩ w14 HSM.out).mono ?_
  rintro e w15 ⟨rfl, hk15⟩
  have K15 := Lib.hid hk15; clear hk15
  go_wp2_with fail
  go_ret
  exact ⟨rfl, HK2.out.trans' (K14.out.trans' K15.out)⟩

set_option linter.unusedVariables false
set_option maxRecDepth 100000 in
theorem lifted (os : Os) (started : os.Started) (H : Type) (enc : TypeId × Value → H) :
    ReturnsInHanded {} Try.checked os 3 .any (Rows.kindNamesSpec.pre6 enc Try.prog Try.f3 Rows.kindNamesRow.domain false) (Rows.kindNamesSpec.post enc Try.prog Try.f3 false true false false) := by
  refine returnsInHanded_of_change (C := Try.checked) own started (by kernel_rfl) Try.func3
    (ChangeSpec.witness6 (enc := enc) (C := Try.checked) false ⟨#[], #[.string ByteArray.empty, .int .u8 0, .int .i64 0], []⟩ 8 (by kernel_rfl) (by kernel_rfl) (by kernel_rfl) (by kernel_rfl)) ?_
  intro W base args ds gs before hval0 hW hcnd _
  have hval : ∀ (j : Nat) t v, Try.f3.params[j]? = some t → args[j]? = some v → Value.okWide Try.prog W .any base t v := hval0
  have hW' := hW
  obtain ⟨p, q, hA0, hV, rfl, hfz, hnd⟩ := hW
  have hA : DataW.TrodAll enc Try.prog W 0 (fun _ => true) true Try.f3.params.toList args.toList ds p := hA0
  rw [Try.params3] at hA hval
  obtain ⟨v0, vs0, d0, ds0, p0, q0, hargs, rfl, rfl, h0, r0⟩ := trodAll_cons hA
  obtain ⟨v1, vs1, d1, ds1, p1, q1, rfl, rfl, rfl, h1, r1⟩ := trodAll_cons r0
  obtain ⟨v2, vs2, d2, ds2, p2, q2, rfl, rfl, rfl, h2, r2⟩ := trodAll_cons r1
  obtain ⟨rfl, rfl, rfl⟩ := trodAll_nil r2
  obtain rfl : args = #[v0, v1, v2] := by cases args; simp_all
  obtain ⟨rfl, rfl⟩ := trodVars_none hV
  obtain ⟨a0, rfl, rfl, rfl, w0⟩ := open_string Try.underlying9 (hval 0 9 v0 rfl rfl) h0
  obtain ⟨a1, rfl, rfl, rfl, w1⟩ := open_int Try.underlying5 (hval 1 5 v1 rfl rfl) h1
  obtain ⟨a2, rfl, rfl, rfl, w2⟩ := open_int Try.underlying3 (hval 2 3 v2 rfl rfl) h2
  clear hA0 hval0
  refine (walk W a0 w0 a1 w1 a2 w2).mono fun e W' ⟨he, hk⟩ => ?_
  subst he
  have bel := Keep.below hk
  exact ⟨_, rfl, _, _, _, [], _, [], hW', trodAll_mk1 (shut_bool Try.underlying4 _), (trodAll_cons_mk (shut_string Try.underlying9 w0) (trodAll_cons_mk (shut_int Try.underlying5 w1) (trodAll_cons_mk (shut_int Try.underlying3 w2) trodAll_mk0))), rfl, bel.frame _, fun h => by cases h⟩

theorem over : Rows.kindNamesRow.holds Try.pinned (OpenSpec.ofChange Rows.kindNamesSpec) :=
  OpenClaim.holds_of_wide 3 Try.f3 rfl rfl rfl rfl rfl rfl rfl ⟨rfl, rfl, rfl, rfl, rfl⟩ rfl rfl rfl rfl rfl (by kernel_rfl) Try.func3 (by kernel_rfl)
    (of_decide_eq_true (by kernel_rfl)) (by unfold Func.isWrapper; rw [if_neg (of_decide_eq_false (by kernel_rfl))]; exact ⟨rfl, rfl⟩)
    (fun os started H enc _ => lifted os started H enc)

/-- The statement. -/
theorem proved : Rows.KindNamesSaid := over
#print axioms proved
end Go.Proofs.Ytgbogbjifpijkaa.kindNames
