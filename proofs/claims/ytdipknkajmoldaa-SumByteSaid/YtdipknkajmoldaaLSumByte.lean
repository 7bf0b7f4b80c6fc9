/- SumByte: the law returns true and changes nothing that was there. No conditions. -/
import Derived.Test.YtdipknkajmoldaaLawBase
import Derived.Test.YtdipknkajmoldaaRows
import Derived.WalkKit
import Derived.ProofKit
import Derived.OpenShut
import Derived.ShutString
import Derived.ChangeOld
import Derived.Below
namespace Go.Proofs.Ytdipknkajmoldaa.sumByte
open Go Go.ChangeShapes Go.WideShapes Go.ChangeAt Go.RowKit
open Go.ChangeMaps (open_string shut_string)

theorem own : ownKnob Try.prog.godebug = none := by kernel_rfl
theorem laidOut : laidOutB Try.prog = true := by kernel_rfl

set_option maxHeartbeats 1000000 in
theorem walk (s : Int) (hs : (Lit.int .u32 s).wf = true) (x : Int) (hx : (Lit.int .u8 x).wf = true) (w : World) :
    Calls Try.prog 15 #[.int .u32 s, .int .u8 x] w fun e w' => e = .returned (.bool true) ∧ Keep NoF w w' := by
  obtain ⟨n, rfl, hn⟩ : ∃ n : Nat, s = n ∧ n < 4294967296 := by
    have := bounds_u32 hs; exact ⟨s.toNat, by omega, by omega⟩
  obtain ⟨b, rfl⟩ := u8_of (bounds_u8 hx)
  clear hs hx
  have hb8 := b.toNat_lt
  have h0 := xor_u32 n b.toNat hn (by omega)
  have hb0 := xor_lt32 hn (show b.toNat < 4294967296 by omega)
  have hc : crcByte n b = crcN 8 (n ^^^ b.toNat) := rfl
  have hm1 : bits .xor .u32 IntKind.u32.max (n : Int) = ((n ^^^ 4294967295 : Nat) : Int) := by rw [Nat.xor_comm]; exact xor_u32 4294967295 n (by decide) hn
  have hm2 : bits .xor .u32 IntKind.u32.max ((crcN 8 (n ^^^ b.toNat) : Nat) : Int) = ((crcN 8 (n ^^^ b.toNat) ^^^ 4294967295 : Nat) : Int) := by rw [Nat.xor_comm _ 4294967295]; exact xor_u32 4294967295 _ (by decide) (crcN_lt 8 hb0)
  have hon : crcOn (n ^^^ 4294967295) [b] = crcN 8 (n ^^^ b.toNat) ^^^ 4294967295 := by
    simp only [crcOn, List.foldl_cons, List.foldl_nil, Nat.xor_assoc, Nat.xor_self, Nat.xor_zero]; rfl
  have Hc := Lib.hid hc; clear hc
  have Hon := Lib.hid hon; clear hon
  generalize n ^^^ b.toNat = m at *
  go_enter Try.func15, Try.ntmps15
  go_wp2_with fail
  refine (begun_any w).mono ?_
  rintro e w1 ⟨rfl, hk⟩
  have H := Lib.hid hk; clear hk
  go_wp2_with fail
  go_loop [6, 7] (fun sv i => ∃ k : Nat, k ≤ 8 ∧ i = .int .i64 k ∧ sv = .int .u32 ((crcN k m : Nat) : Int)) (fun _ i => 8 - (intOf i).toNat)
  case atStart => exact ⟨0, Nat.zero_le _, rfl, rfl⟩
  case round =>
    obtain ⟨k, hk, rfl, rfl⟩ := hrel
    by_cases hlt : k < 8
    · have hb := crcN_lt k hb0
      have hn' : crcN (k + 1) m = crcStep (crcN k m) := rfl
      have Hn := Lib.hid hn'; clear hn'
      have ha := and1_u32 (crcN k m) hb
      have hx2 : bits .xor .u32 ((crcN k m : Int) / 2) 2197175160 = ((crcN k m / 2 ^^^ 2197175160 : Nat) : Int) := xor_u32 (crcN k m / 2) 2197175160 (by omega) (by decide)
      generalize hq : crcN k m = q at ha hx2 hb ⊢
      have Hq := Lib.hid hq; clear hq
      by_cases h1 : q % 2 = 1
      · rw [h1] at ha
        have e : crcStep q = (q / 2) ^^^ 2197175160 := by unfold crcStep; rw [if_pos h1]
        have He := Lib.hid e; clear e
        clear h1 hm1 hm2 h0
        go_wp2_with fail
        go_round
        case rel => exact ⟨k + 1, by omega, by go_num, by rw [Hn.out, Hq.out, He.out]⟩
        case measure => simp [intOf]; omega
      · have h2 : q % 2 = 0 := by omega
        rw [h2] at ha
        have e : crcStep q = q / 2 := by unfold crcStep; rw [if_neg h1]
        have He := Lib.hid e; clear e
        clear h1 h2 hm1 hm2 h0
        go_wp2_with fail
        go_round
        case rel => exact ⟨k + 1, by omega, by go_num, by rw [Hn.out, Hq.out, He.out]; rfl⟩
        case measure => simp [intOf]; omega
    · obtain rfl : k = 8 := by omega
      go_wp2_with fail
      refine (bits_any n b w1 hn).mono ?_
      rintro e w' ⟨rfl, rfl⟩
      rw [Hc.out]
      go_wp2_with fail
      refine (on_any (n ^^^ 4294967295) _ _ [b] _ (xor_lt32 hn (by decide)) (SlB.new w1 [b] 5 (0, 0) (show 1 ≤ maxLen by decide))).mono ?_
      rintro e w' ⟨rfl, rfl⟩
      rw [Hon.out]
      go_wp2_with fail
      go_ret
      exact ⟨rfl, H.out.alloc _⟩

set_option linter.unusedVariables false
set_option maxRecDepth 100000 in
theorem lifted (os : Os) (started : os.Started) (H : Type) (enc : TypeId × Value → H) :
    ReturnsInHanded {} Try.checked os 15 .any (Rows.sumByteSpec.pre6 enc Try.prog Try.f15 Rows.sumByteRow.domain false) (Rows.sumByteSpec.post enc Try.prog Try.f15 false true false false) := by
  refine returnsInHanded_of_change (C := Try.checked) own started (by kernel_rfl) Try.func15
    (ChangeSpec.witness6 (enc := enc) (C := Try.checked) false ⟨#[], #[.int .u32 0, .int .u8 0], []⟩ 8 (by kernel_rfl) (by kernel_rfl) (by kernel_rfl) (by kernel_rfl)) ?_
  intro W base args ds gs before hval0 hW hcnd _
  have hval : ∀ (j : Nat) t v, Try.f15.params[j]? = some t → args[j]? = some v → Value.okWide Try.prog W .any base t v := hval0
  have hW' := hW
  obtain ⟨p, q, hA0, hV, rfl, hfz, hnd⟩ := hW
  have hA : DataW.TrodAll enc Try.prog W 0 (fun _ => true) true Try.f15.params.toList args.toList ds p := hA0
  rw [Try.params15] at hA hval
  obtain ⟨v0, vs0, d0, ds0, p0, q0, hargs, rfl, rfl, h0, r0⟩ := trodAll_cons hA
  obtain ⟨v1, vs1, d1, ds1, p1, q1, rfl, rfl, rfl, h1, r1⟩ := trodAll_cons r0
  obtain ⟨rfl, rfl, rfl⟩ := trodAll_nil r1
  obtain rfl : args = #[v0, v1] := by cases args; simp_all
  obtain ⟨rfl, rfl⟩ := trodVars_none hV
  obtain ⟨a0, rfl, rfl, rfl, w0⟩ := open_int Try.underlying53 (hval 0 53 v0 rfl rfl) h0
  obtain ⟨a1, rfl, rfl, rfl, w1⟩ := open_int Try.underlying5 (hval 1 5 v1 rfl rfl) h1
  clear hA0 hval0
  refine (walk a0 w0 a1 w1 W).mono fun e W' ⟨he, hk⟩ => ?_
  subst he
  have bel := Keep.below hk
  exact ⟨_, rfl, _, _, _, [], _, [], hW', trodAll_mk1 (shut_bool Try.underlying4 _), (trodAll_cons_mk (shut_int Try.underlying53 w0) (trodAll_cons_mk (shut_int Try.underlying5 w1) trodAll_mk0)), rfl, bel.frame _, fun h => by cases h⟩

theorem over : Rows.sumByteRow.holds Try.pinned (OpenSpec.ofChange Rows.sumByteSpec) :=
  OpenClaim.holds_of_wide 15 Try.f15 rfl rfl rfl rfl rfl rfl rfl ⟨rfl, rfl, rfl, rfl, rfl⟩ rfl rfl rfl rfl rfl (by kernel_rfl) Try.func15 (by kernel_rfl)
    (of_decide_eq_true (by kernel_rfl)) (by unfold Func.isWrapper; rw [if_neg (of_decide_eq_false (by kernel_rfl))]; exact ⟨rfl, rfl⟩)
    (fun os started H enc _ => lifted os started H enc)

/-- The statement. -/
theorem proved : Rows.SumByteSaid := over
#print axioms proved
end Go.Proofs.Ytdipknkajmoldaa.sumByte
