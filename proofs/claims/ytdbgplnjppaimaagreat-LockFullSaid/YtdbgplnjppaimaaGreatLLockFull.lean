/- LockFull: the law returns true and changes nothing that was there. No conditions. -/
import Derived.Test.YtdbgplnjppaimaaGreatLaw13
import Derived.Test.YtdbgplnjppaimaaGreatRows
import Derived.WalkKit
import Derived.ProofKit
import Derived.OpenShut
import Derived.ShutString
import Derived.ChangeOld
import Derived.Below
namespace Go.Proofs.YtdbgplnjppaimaaGreat.lockFull
open Go Go.ChangeShapes Go.WideShapes Go.ChangeAt Go.RowKit
open Go.ChangeMaps (open_string shut_string)

theorem own : ownKnob Tryz.prog.godebug = none := by kernel_rfl
theorem laidOut : laidOutB Tryz.prog = true := by kernel_rfl

open Go.Proofs Go.RowKit Go.Maps Go.Sort Go.Shelf
theorem open_arg0 {H : Type} {enc : TypeId × Value → H} {a : Option Addr} {len cap : Nat} {d : DataW H} {p : List MemPlace} (W : World) (_base : Nat)
    (h : DataW.Trod enc Tryz.prog W 0 (fun _ => true) true 41 (.slice a len cap) d p) : ∃ l : List Bool, l.length = len ∧ SlBo W a cap l := open_bools h
set_option maxHeartbeats 8000000 in
set_option maxRecDepth 8000 in
theorem walk (w : World) (ao : Option Addr) (len cap : Nat) (l : List Bool) (h : l.length = len ∧ SlBo w ao cap l) :
    Calls Tryz.prog 5 #[.slice ao len cap] w fun e w' => e = .returned (.bool true) ∧ Keep NoF w w' := by
  have HL := Lib.hid h
  clear h
  have hk9 : KI 9 := ki_small (by omega)
  go_enter Tryz.func5, Tryz.ntmps5
  go_wp2_with fail
  refine (begun13_any w).mono ?_
  rintro e w1 ⟨rfl, hk⟩
  have K1 := Lib.hid hk
  clear hk
  go_wp2_with fail
  refine (newLock_any w1).mono ?_
  rintro e w2 hN
  obtain ⟨p, rfl, hS⟩ := lst_new K1.out hN
  have S2 := Lib.hid hS
  clear hN hS
  go_wp2_with fail
  go_loopw [5, 6] (fun qv iv wr => ∃ (i q nb : Nat) (cn : Int → Int) (ps : Int → List PutV) (ag : Int → Int), i ≤ min len 15 ∧ q ≤ i ∧ nb ≤ i ∧ iv = .int .i64 i ∧ qv = .int .i64 q ∧ LSt w wr p nb cn ps ag ∧ cn 9 = min (i : Int) 10 ∧ (ps 9).length = q) (fun _ iv _ => 15 - (intOf iv).toNat)
  case atStart => exact ⟨0, 0, 0, _, _, _, Nat.zero_le _, Nat.le_refl _, Nat.le_refl _, rfl, rfl, S2.out, rfl, rfl⟩
  case round =>
    obtain ⟨i, q, nb, cn, ps, ag, hi, hq, hnb, rfl, rfl, hS, hc, hp⟩ := hrel
    have HS := Lib.hid hS; have HC := Lib.hid hc; have HP := Lib.hid hp
    clear hS hc hp
    by_cases hlt : i < len
    · have hlt2 : (i : Int) < len := by omega
      have hlt3 : decide (i < len) = true := by simp [hlt]
      by_cases h15 : i < 15
      · have h15b : (i : Int) < 15 := by omega
        have h15c : decide ((i : Int) < 15) = true := by simp [h15b]
        obtain ⟨hll, hsl⟩ := HL.out
        have hil : i < l.length := by omega
        obtain ⟨g, off, rfl, hcell⟩ := (hsl.keep HS.out.kp (fun _ _ f => f)).2.2 i hil
        generalize l[i] = b at hcell
        clear hsl
        cases b
        · by_cases h10 : i < 10
          · have h10b : (i : Int) < 10 := by omega
            have h10c : decide ((i : Int) < 10) = true := by simp [h10b]
            go_wp2_with fail
            refine (lst_took HS.out 9 hk9 (by rw [HC.out]; omega) (by omega)).mono ?_
            rintro e w3 ⟨rfl, h3⟩
            have S3 := Lib.hid h3
            have hn : cnUp cn 9 9 = (i : Int) + 1 := by unfold cnUp; rw [if_pos rfl, HC.out]; omega
            have hmin : min ((i : Int) + 1) 10 = (i : Int) + 1 := by omega
            have HCN := Lib.hid hn
            clear h3
            go_wp2_with fail
            refine (lst_N S3.out 9 hk9).mono ?_
            rintro e w' ⟨rfl, hw⟩
            obtain rfl : w3 = w' := hw.symm
            rw [hn]
            go_wp2_with fail
            refine (lst_puts S3.out 9 hk9).mono ?_
            rintro e w4 ⟨v, rfl, ⟨a4, c4, rfl, _, _⟩, h4, _⟩
            have S4 := Lib.hid h4
            rw [HP.out]
            clear h4
            go_wp2_with fail
            go_roundw
            case rel => exact ⟨i + 1, q, nb + 1, _, _, _, by omega, by omega, by omega, by go_num, rfl, S4.out, by rw [HCN.out]; omega, HP.out⟩
            case measure => simp [intOf]; omega
          · have h10b : ¬ (i : Int) < 10 := by omega
            have h10c : decide ((i : Int) < 10) = false := by simp [h10b]
            go_wp2_with fail
            refine (lst_took_full HS.out 9 hk9 (by rw [HC.out]; omega)).mono ?_
            rintro e w' ⟨rfl, hw⟩
            obtain rfl : wr = w' := hw.symm
            have hn : cn 9 = 10 := by rw [HC.out]; omega
            have hmin : min ((i : Int) + 1) 10 = 10 := by omega
            have HCN := Lib.hid hn
            go_wp2_with fail
            refine (lst_N HS.out 9 hk9).mono ?_
            rintro e w' ⟨rfl, hw⟩
            obtain rfl : wr = w' := hw.symm
            rw [hn]
            go_wp2_with fail
            refine (lst_puts HS.out 9 hk9).mono ?_
            rintro e w4 ⟨v, rfl, ⟨a4, c4, rfl, _, _⟩, h4, _⟩
            have S4 := Lib.hid h4
            rw [HP.out]
            clear h4
            go_wp2_with fail
            go_roundw
            case rel => exact ⟨i + 1, q, nb, _, _, _, by omega, by omega, by omega, by go_num, rfl, S4.out, by rw [HCN.out]; omega, HP.out⟩
            case measure => simp [intOf]; omega
        · by_cases h10 : i < 10
          · have h10b : (i : Int) < 10 := by omega
            have h10c : decide ((i : Int) < 10) = true := by simp [h10b]
            go_wp2_with fail
            refine (lst_put HS.out 9 hk9 (by rw [HC.out]; omega) (by omega) ⟨⟨#[113]⟩, ⟨#[]⟩⟩).mono ?_
            rintro e w3 ⟨rfl, h3⟩
            have S3 := Lib.hid h3
            have hn : cnUp cn 9 9 = (i : Int) + 1 := by unfold cnUp; rw [if_pos rfl, HC.out]; omega
            have hp2 : (psUp ps 9 ⟨⟨#[113]⟩, ⟨#[]⟩⟩ 9).length = q + 1 := by unfold psUp; rw [if_pos rfl, List.length_append, HP.out]; rfl
            have hmin : min ((i : Int) + 1) 10 = (i : Int) + 1 := by omega
            have HCN := Lib.hid hn; have HP2 := Lib.hid hp2
            have hw1 : IntKind.i64.wrap ((q : Int) + 1) = (q : Int) + 1 := IntWalk.i64_in _ (by omega)
            clear h3 hp2
            go_wp2_with fail
            refine (lst_N S3.out 9 hk9).mono ?_
            rintro e w' ⟨rfl, hw⟩
            obtain rfl : w3 = w' := hw.symm
            rw [hn]
            go_wp2_with fail
            refine (lst_puts S3.out 9 hk9).mono ?_
            rintro e w4 ⟨v, rfl, ⟨a4, c4, rfl, _, _⟩, h4, _⟩
            have S4 := Lib.hid h4
            rw [HP2.out]
            clear h4
            go_wp2_with fail
            go_roundw
            case rel => exact ⟨i + 1, q + 1, nb + 1, _, _, _, by omega, by omega, by omega, by go_num, by go_num, S4.out, by rw [HCN.out]; omega, HP2.out⟩
            case measure => simp [intOf]; omega
          · have h10b : ¬ (i : Int) < 10 := by omega
            have h10c : decide ((i : Int) < 10) = false := by simp [h10b]
            go_wp2_with fail
            refine (lst_put_full HS.out 9 hk9 (by rw [HC.out]; omega) ⟨⟨#[113]⟩, ⟨#[]⟩⟩).mono ?_
            rintro e w3 ⟨rfl, h3⟩
            have S3 := Lib.hid h3
            have hn : cn 9 = 10 := by rw [HC.out]; omega
            have hmin : min ((i : Int) + 1) 10 = 10 := by omega
            have HCN := Lib.hid hn
            clear h3
            go_wp2_with fail
            refine (lst_N S3.out 9 hk9).mono ?_
            rintro e w' ⟨rfl, hw⟩
            obtain rfl : w3 = w' := hw.symm
            rw [hn]
            go_wp2_with fail
            refine (lst_puts S3.out 9 hk9).mono ?_
            rintro e w4 ⟨v, rfl, ⟨a4, c4, rfl, _, _⟩, h4, _⟩
            have S4 := Lib.hid h4
            rw [HP.out]
            clear h4
            go_wp2_with fail
            go_roundw
            case rel => exact ⟨i + 1, q, nb, _, _, _, by omega, by omega, by omega, by go_num, rfl, S4.out, by rw [HCN.out]; omega, HP.out⟩
            case measure => simp [intOf]; omega
      · have h15b : ¬ (i : Int) < 15 := by omega
        have h15c : decide ((i : Int) < 15) = false := by simp [h15b]
        have KP := Lib.hid HS.out.kp
        go_wp2_with fail
        go_ret
        exact ⟨rfl, KP.out⟩
    · have hlt2 : ¬ (i : Int) < len := by omega
      have hlt3 : decide (i < len) = false := by simp [hlt]
      have KP := Lib.hid HS.out.kp
      go_wp2_with fail
      go_ret
      exact ⟨rfl, KP.out⟩

set_option linter.unusedVariables false
set_option maxRecDepth 100000 in
theorem lifted (os : Os) (started : os.Started) (H : Type) (enc : TypeId × Value → H) :
    ReturnsInHanded {} Tryz.checked os 5 .any (Rows.lockFullSpec.pre6 enc Tryz.prog Tryz.f5 Rows.lockFullRow.domain false) (Rows.lockFullSpec.post enc Tryz.prog Tryz.f5 false true false false) := by
  refine returnsInHanded_of_change (C := Tryz.checked) own started (by kernel_rfl) Tryz.func5
    (ChangeSpec.witness6 (enc := enc) (C := Tryz.checked) false ⟨#[], #[.slice none 0 0], []⟩ 8 (by kernel_rfl) (by kernel_rfl) (by kernel_rfl) (by kernel_rfl)) ?_
  intro W base args ds gs before hval0 hW hcnd _
  have hval : ∀ (j : Nat) t v, Tryz.f5.params[j]? = some t → args[j]? = some v → Value.okWide Tryz.prog W .any base t v := hval0
  have hW' := hW
  obtain ⟨p, q, hA0, hV, rfl, hfz, hnd⟩ := hW
  have hA : DataW.TrodAll enc Tryz.prog W 0 (fun _ => true) true Tryz.f5.params.toList args.toList ds p := hA0
  rw [Tryz.params5] at hA hval
  obtain ⟨v0, vs0, d0, ds0, p0, q0, hargs, rfl, rfl, h0, r0⟩ := trodAll_cons hA
  obtain ⟨rfl, rfl, rfl⟩ := trodAll_nil r0
  obtain rfl : args = #[v0] := by cases args; simp_all
  obtain ⟨rfl, rfl⟩ := trodVars_none hV
  obtain ⟨a0, len0, cap0, rfl⟩ := okWide_slice Tryz.underlying41 (hval 0 41 v0 rfl rfl)
  have k0 := h0
  have lt0 : ∀ x ∈ p0, x.block < W.heap.size := by obtain ⟨m, hm⟩ := k0; exact DataW.trod_lt m _ _ _ hm
  obtain ⟨z0, w0⟩ := open_arg0 W base h0
  clear hA0 hval0
  refine (walk W a0 len0 cap0 z0 w0).mono fun e W' ⟨he, hk⟩ => ?_
  subst he
  have bel := Keep.below hk
  exact ⟨_, rfl, _, _, _, [], _, [], hW', trodAll_mk1 (shut_bool Tryz.underlying4 _), (trodAll_cons_mk (Below.trod laidOut (by kernel_rfl) (of_decide_eq_true (by kernel_rfl)) k0 bel lt0) trodAll_mk0), rfl, bel.frame _, fun h => by cases h⟩

theorem over : Rows.lockFullRow.holds Tryz.pinned (OpenSpec.ofChange Rows.lockFullSpec) :=
  OpenClaim.holds_of_wide 5 Tryz.f5 rfl rfl rfl rfl rfl rfl rfl ⟨rfl, rfl, rfl, rfl, rfl⟩ rfl rfl rfl rfl rfl (by kernel_rfl) Tryz.func5 (by kernel_rfl)
    (of_decide_eq_true (by kernel_rfl)) (by unfold Func.isWrapper; rw [if_neg (of_decide_eq_false (by kernel_rfl))]; exact ⟨rfl, rfl⟩)
    (fun os started H enc _ => lifted os started H enc)

/-- The statement. -/
theorem proved : Rows.LockFullSaid := over
#print axioms proved
end Go.Proofs.YtdbgplnjppaimaaGreat.lockFull
