/- ByteSmall: the law returns true and changes nothing that was there. No conditions. -/
import Derived.Test.YtdipknkajmoldaaLawBase
import Derived.Test.YtdipknkajmoldaaRows
import Derived.WalkKit
import Derived.ProofKit
import Derived.OpenShut
import Derived.ShutString
import Derived.ChangeOld
import Derived.Below
namespace Go.Proofs.Ytdipknkajmoldaa.byteSmall
open Go Go.ChangeShapes Go.WideShapes Go.ChangeAt Go.RowKit
open Go.ChangeMaps (open_string shut_string)

theorem own : ownKnob Try.prog.godebug = none := by kernel_rfl
theorem laidOut : laidOutB Try.prog = true := by kernel_rfl

theorem out_start (w : World) {o : Obj} {l : List UInt8} {w1 : World} (h : OutS (w.alloc o) w.heap.size none l w1) : Keep NoF w w1 := by
  obtain ⟨g', _, hk, _⟩ := h
  refine ((Keep.refl NoF w).alloc o).trans hk (fun _ _ f => f) (fun i hi f => ?_)
  rcases f with f | f
  · subst f; exact absurd hi (Nat.lt_irrefl _)
  · cases f

set_option maxHeartbeats 1000000 in
theorem walk (n : Int) (hn : (Lit.int .i64 n).wf = true) (w : World) :
    Calls Try.prog 12 #[.int .i64 n] w fun e w' => e = .returned (.bool true) ∧ Keep NoF w w' := by
  have hbn := bounds_i64 hn
  clear hn
  obtain ⟨x, y, hL, hx, hy, hr⟩ : ∃ x y : UInt8, smallB n = [x, y] ∧ (x.toNat : Int) = n % 256 ∧ (y.toNat : Int) = (n / 256) % 256 ∧ (rdN 2 (some [x, y]) : Int) = n % 65536 := by
    refine ⟨UInt8.ofNat (n % 18446744073709551616).toNat, UInt8.ofNat ((n % 18446744073709551616).toNat / 256), rfl, ?_, ?_, ?_⟩
    · simp [UInt8.toNat_ofNat']; omega
    · simp [UInt8.toNat_ofNat']; omega
    · simp [rdN, leNat, UInt8.toNat_ofNat']; omega
  have m1 : bits .and .i64 n 255 = (x.toNat : Int) := by rw [and_255_i64, hx]
  have m2 : bits .and .i64 (n / 256) 255 = (y.toNat : Int) := by rw [and_255_i64, hy]
  have m3 : bits .and .i64 n 65535 = (rdN 2 (some [x, y]) : Int) := by rw [and_65535_i64, hr]
  have HL := Lib.hid hL; clear hL hx hy hr
  have hx8 := x.toNat_lt
  have hy8 := y.toNat_lt
  go_enter Try.func12, Try.ntmps12
  go_wp2_with fail
  refine (begun_any w).mono ?_
  rintro e w1 ⟨rfl, hk⟩
  have H := Lib.hid hk; clear hk
  go_wp2_with fail
  refine (small_any w1.heap.size none [] n _ (out_new w1) (by simp)).mono ?_
  rintro e w2 ⟨rfl, hs⟩
  have H2 := Lib.hid (out_start w1 hs)
  obtain ⟨g, ⟨v, hv, rfl⟩, hk2, hg2⟩ := hs
  rw [List.nil_append, HL.out] at hv
  obtain ⟨ao, cp, rfl, hsl, hbk⟩ := hv.slb
  have hh := hv.1
  clear hv hk2 hg2 hbk
  obtain ⟨g, off, rfl, hb0⟩ := hsl.2.2 0 (by simp)
  obtain ⟨g', off', e, hb1⟩ := hsl.2.2 1 (by simp)
  injection e with e; injection e with e1 e2; subst e1 e2
  have hc := cell_of_heap hh 0
  simp at hc
  simp [bval] at hb0 hb1
  have hcap := hsl.1
  have hlt := hsl.lt (by simp)
  have Hh := Lib.hid hh; clear hh
  go_wp2_with fail
  refine (read_at _ cp [x, y] w2 hsl hlt w2.heap.size rfl).mono ?_
  rintro e w3 ⟨rfl, hR, hk3⟩
  go_wp2_with fail
  refine (insmall_any _ _ _ w3 hR).mono ?_
  rintro e w4 ⟨rfl, hR4, hk4⟩
  have hk24 : Keep NoF w2 w4 := hk3.trans hk4 (fun _ _ f => f) (fun i hi f => by subst f; exact absurd hi (Nat.lt_irrefl _))
  have hc4 := hk24.cell' hc (fun f => f)
  have hb04 := hk24.cell' hb0 (fun f => f)
  have hb14 := hk24.cell' hb1 (fun f => f)
  have H3 := Lib.hid hk24
  clear hc hb0 hb1 hk3 hk4 hk24 hR hR4
  go_wp2_with fail
  go_ret
  exact ⟨rfl, H.out.trans' (H2.out.trans' H3.out)⟩

set_option linter.unusedVariables false
set_option maxRecDepth 100000 in
theorem lifted (os : Os) (started : os.Started) (H : Type) (enc : TypeId × Value → H) :
    ReturnsInHanded {} Try.checked os 12 .any (Rows.byteSmallSpec.pre6 enc Try.prog Try.f12 Rows.byteSmallRow.domain false) (Rows.byteSmallSpec.post enc Try.prog Try.f12 false true false false) := by
  refine returnsInHanded_of_change (C := Try.checked) own started (by kernel_rfl) Try.func12
    (ChangeSpec.witness6 (enc := enc) (C := Try.checked) false ⟨#[], #[.int .i64 0], []⟩ 8 (by kernel_rfl) (by kernel_rfl) (by kernel_rfl) (by kernel_rfl)) ?_
  intro W base args ds gs before hval0 hW hcnd _
  have hval : ∀ (j : Nat) t v, Try.f12.params[j]? = some t → args[j]? = some v → Value.okWide Try.prog W .any base t v := hval0
  have hW' := hW
  obtain ⟨p, q, hA0, hV, rfl, hfz, hnd⟩ := hW
  have hA : DataW.TrodAll enc Try.prog W 0 (fun _ => true) true Try.f12.params.toList args.toList ds p := hA0
  rw [Try.params12] at hA hval
  obtain ⟨v0, vs0, d0, ds0, p0, q0, hargs, rfl, rfl, h0, r0⟩ := trodAll_cons hA
  obtain ⟨rfl, rfl, rfl⟩ := trodAll_nil r0
  obtain rfl : args = #[v0] := by cases args; simp_all
  obtain ⟨rfl, rfl⟩ := trodVars_none hV
  obtain ⟨a0, rfl, rfl, rfl, w0⟩ := open_int Try.underlying3 (hval 0 3 v0 rfl rfl) h0
  clear hA0 hval0
  refine (walk a0 w0 W).mono fun e W' ⟨he, hk⟩ => ?_
  subst he
  have bel := Keep.below hk
  exact ⟨_, rfl, _, _, _, [], _, [], hW', trodAll_mk1 (shut_bool Try.underlying4 _), (trodAll_cons_mk (shut_int Try.underlying3 w0) trodAll_mk0), rfl, bel.frame _, fun h => by cases h⟩

theorem over : Rows.byteSmallRow.holds Try.pinned (OpenSpec.ofChange Rows.byteSmallSpec) :=
  OpenClaim.holds_of_wide 12 Try.f12 rfl rfl rfl rfl rfl rfl rfl ⟨rfl, rfl, rfl, rfl, rfl⟩ rfl rfl rfl rfl rfl (by kernel_rfl) Try.func12 (by kernel_rfl)
    (of_decide_eq_true (by kernel_rfl)) (by unfold Func.isWrapper; rw [if_neg (of_decide_eq_false (by kernel_rfl))]; exact ⟨rfl, rfl⟩)
    (fun os started H enc _ => lifted os started H enc)

/-- The statement. -/
theorem proved : Rows.ByteSmallSaid := over
#print axioms proved
end Go.Proofs.Ytdipknkajmoldaa.byteSmall
