/- SessFull: the law returns true and changes nothing that was there. No conditions. -/
import Derived.Test.YtdbgplnjppaimaaGreatLaw13s
import Derived.Test.YtdbgplnjppaimaaGreatRows
import Derived.WalkKit
import Derived.ProofKit
import Derived.OpenShut
import Derived.ShutString
import Derived.ChangeOld
import Derived.Below
namespace Go.Proofs.YtdbgplnjppaimaaGreat.sessFull
open Go Go.ChangeShapes Go.WideShapes Go.ChangeAt Go.RowKit
open Go.ChangeMaps (open_string shut_string)

theorem own : ownKnob Tryz.prog.godebug = none := by kernel_rfl
theorem laidOut : laidOutB Tryz.prog = true := by kernel_rfl

open Go.Proofs Go.RowKit Go.Maps Go.Sort Go.Shelf
theorem idl_drop {m k : Nat} (h : k < m) : (idl 2 m).drop k = (8589934592 + ((k : Int) + 1)) :: (idl 2 m).drop (k + 1) := by
  have hl : k < (idl 2 m).length := by rw [idl_len]; exact h
  rw [List.drop_eq_getElem_cons hl]
  congr 1
  simp [idl]
theorem not_in_drop {m k : Nat} (h : m ≤ k) : (8589934592 + ((k : Int) + 1)) ∉ (idl 2 m).drop k := by
  rw [List.drop_eq_nil_of_le (by rw [idl_len]; exact h)]; exact List.not_mem_nil
set_option maxHeartbeats 8000000 in
set_option maxRecDepth 8000 in
theorem walk (w : World) (n0 : Int) (hn0 : (Lit.int .i64 n0).wf = true) (c0 : Int) (hc0 : (Lit.int .i64 c0).wf = true) :
    Calls Tryz.prog 4 #[.int .i64 n0, .int .i64 c0] w fun e w' => e = .returned (.bool true) ∧ Keep NoF w w' := by
  have hb := bounds_i64 hn0
  have hb2 := bounds_i64 hc0
  clear hn0 hc0
  go_enter Tryz.func4, Tryz.ntmps4
  go_wp2_with fail
  refine (begun13_any w).mono ?_
  rintro e w1 ⟨rfl, hk⟩
  have K1 := Lib.hid hk
  clear hk
  by_cases h1 : n0 < 0
  · have h1d : decide (n0 < 0) = true := by simp [h1]
    go_wp2_with fail
    go_ret
    exact ⟨rfl, K1.out⟩
  · have h1d : decide (n0 < 0) = false := by simp [h1]
    by_cases h2 : 30 < n0
    · have h2d : decide (30 < n0) = true := by simp [h2]
      go_wp2_with fail
      go_ret
      exact ⟨rfl, K1.out⟩
    · have h2d : decide (30 < n0) = false := by simp [h2]
      by_cases h3 : c0 < 0
      · have h3d : decide (c0 < 0) = true := by simp [h3]
        go_wp2_with fail
        go_ret
        exact ⟨rfl, K1.out⟩
      · have h3d : decide (c0 < 0) = false := by simp [h3]
        by_cases h4 : 20 < c0
        · have h4d : decide (20 < c0) = true := by simp [h4]
          go_wp2_with fail
          go_ret
          exact ⟨rfl, K1.out⟩
        · have h4d : decide (20 < c0) = false := by simp [h4]
          obtain ⟨n, rfl⟩ : ∃ n : Nat, n0 = n := ⟨n0.toNat, by omega⟩
          obtain ⟨c, rfl⟩ : ∃ n : Nat, c0 = n := ⟨c0.toNat, by omega⟩
          have hn30 : n ≤ 30 := by omega
          have hc20 : c ≤ 20 := by omega
          go_wp2_with fail
          refine (newSes_any 2 (by omega) w1).mono ?_
          rintro e w2 hN
          obtain ⟨p, mb, tp, tm, rfl, hS⟩ := sst_new K1.out hN
          have S2 := Lib.hid hS
          clear hN hS
          go_wp2_with fail
          go_loopw [7] (fun iv wr => ∃ (i nb : Nat) (td ag : Int → Int), i ≤ n ∧ nb ≤ i ∧ iv = .int .i64 i ∧ SSt w wr p mb tp tm nb 2 (min i 20 : Nat) (idl 2 (min i 20)) td ag) (fun iv _ => n - (intOf iv).toNat)
          case atStart => exact ⟨0, 0, _, _, Nat.zero_le _, Nat.le_refl _, rfl, S2.out⟩
          case round =>
            obtain ⟨i, nb, td, ag, hi, hnb, rfl, hS⟩ := hrel
            have HS := Lib.hid hS
            clear hS
            by_cases hlt : i < n
            · have hlt2 : (i : Int) < n := by omega
              have hlt3 : decide (i < n) = true := by simp [hlt]
              by_cases h20 : i < 20
              · have h20b : (i : Int) < 20 := by omega
                have h20c : decide ((i : Int) < 20) = true := by simp [h20b]
                have hmi : min i 20 = i := by omega
                rw [hmi] at HS
                clear hmi
                go_wp2_with fail
                refine (sst_open HS.out (by rw [idl_len]; exact h20) (by omega) (by omega)).mono ?_
                rintro e w3 ⟨rfl, h3, _⟩
                rw [idl_succ] at h3
                have S3 := Lib.hid h3
                clear h3
                go_wp2_with fail
                go_roundw
                case rel =>
                  refine ⟨i + 1, nb + 1, tdUp td (2 * 4294967296 + ((i : Int) + 1)) 0, agUp ag (2 * 4294967296 + ((i : Int) + 1)), by omega, by omega, by go_num, ?_⟩
                  rw [show min (i + 1) 20 = i + 1 by omega]
                  exact S3.out
                case measure => simp [intOf]; omega
              · have h20b : ¬ (i : Int) < 20 := by omega
                have h20c : decide ((i : Int) < 20) = false := by simp [h20b]
                have hmi : min i 20 = 20 := by omega
                rw [hmi] at HS
                clear hmi
                go_wp2_with fail
                refine (sopen_full HS.out.1 (by rw [idl_len]; exact Nat.le_refl _)).mono ?_
                rintro e w' ⟨rfl, hw⟩
                obtain rfl : wr = w' := hw.symm
                go_wp2_with fail
                go_roundw
                case rel =>
                  refine ⟨i + 1, nb, td, ag, by omega, by omega, by go_num, ?_⟩
                  rw [show min (i + 1) 20 = 20 by omega]
                  exact HS.out
                case measure => simp [intOf]; omega
            · have hlt2 : ¬ (i : Int) < n := by omega
              have hlt3 : decide (i < n) = false := by simp [hlt]
              obtain rfl : i = n := by omega
              obtain ⟨m, hm⟩ : ∃ m, min i 20 = m := ⟨_, rfl⟩
              have hmI : min (i : Int) 20 = m := by omega
              rw [hm] at HS
              have hm20 : m ≤ 20 := by omega
              clear hm
              go_wp2_with fail
              go_loopw [11] (fun jv wr => ∃ (j : Nat) (td ag : Int → Int), j ≤ c ∧ jv = .int .i64 (j + 1 : Nat) ∧ SSt w wr p mb tp tm nb 2 m ((idl 2 m).drop j) td ag) (fun jv _ => c + 1 - (intOf jv).toNat)
              case atStart => exact ⟨0, _, _, Nat.zero_le _, rfl, HS.out⟩
              case round =>
                obtain ⟨j, td, ag, hj, rfl, hS⟩ := hrel
                have HT := Lib.hid hS
                clear hS
                by_cases hlt : j < c
                · have hltc2 : (j : Int) + 1 ≤ c := by omega
                  have hltc4 : decide ((j : Int) + 1 ≤ c) = true := by simp [hltc2]
                  have hltc3 : decide (j + 1 ≤ c) = true := by simp; omega
                  by_cases hjm : j < m
                  · have hjm2 : (j : Int) + 1 ≤ m := by omega
                    have hjm4 : decide ((j : Int) + 1 ≤ m) = true := by simp [hjm2]
                    have hjm3 : decide (j + 1 ≤ m) = true := by simp; omega
                    go_wp2_with fail
                    refine (rmake_any 2 ((j + 1 : Nat) : Int) wr (by omega) (by omega)).mono ?_
                    rintro e w' ⟨rfl, hw⟩
                    obtain rfl : wr = w' := hw.symm
                    rw [make_is 2 ((j + 1 : Nat) : Int) (by omega) (by omega)]
                    have HT2 := HT.out
                    rw [idl_drop hjm] at HT2
                    go_wp2_with fail
                    refine (sst_close HT2 _ (ki_small (by omega)) (List.mem_cons_self ..)).mono ?_
                    rintro e w3 ⟨rfl, h3, _⟩
                    rw [filter_head HT2.1.st] at h3
                    have S3 := Lib.hid h3
                    clear h3 HT2
                    go_wp2_with fail
                    go_roundw
                    case rel => exact ⟨j + 1, _, _, by omega, by go_num, S3.out⟩
                    case measure => simp [intOf]; omega
                  · have hjm2 : ¬ (j : Int) + 1 ≤ m := by omega
                    have hjm4 : decide ((j : Int) + 1 ≤ m) = false := by simp [hjm2]
                    have hjm3 : decide (j + 1 ≤ m) = false := by simp; omega
                    go_wp2_with fail
                    refine (rmake_any 2 ((j + 1 : Nat) : Int) wr (by omega) (by omega)).mono ?_
                    rintro e w' ⟨rfl, hw⟩
                    obtain rfl : wr = w' := hw.symm
                    rw [make_is 2 ((j + 1 : Nat) : Int) (by omega) (by omega)]
                    go_wp2_with fail
                    refine (sclose_no HT.out.1 _ (ki_small (by omega)) (not_in_drop (by omega))).mono ?_
                    rintro e w' ⟨rfl, hw⟩
                    obtain rfl : wr = w' := hw.symm
                    have hd : (idl 2 m).drop (j + 1) = (idl 2 m).drop j := by rw [List.drop_eq_nil_of_le (by rw [idl_len]; omega), List.drop_eq_nil_of_le (by rw [idl_len]; omega)]
                    have HD := Lib.hid hd
                    clear hd
                    go_wp2_with fail
                    go_roundw
                    case rel => exact ⟨j + 1, _, _, by omega, by go_num, by rw [HD.out]; exact HT.out⟩
                    case measure => simp [intOf]; omega
                · have hltc2 : ¬ (j : Int) + 1 ≤ c := by omega
                  have hltc4 : decide ((j : Int) + 1 ≤ c) = false := by simp [hltc2]
                  have hltc3 : decide (j + 1 ≤ c) = false := by simp; omega
                  obtain rfl : j = c := by omega
                  have hlen : ((idl 2 m).drop j).length = m - j := by rw [List.length_drop, idl_len]
                  by_cases hfull : m - j < 20
                  · go_wp2_with fail
                    refine (sst_open HT.out (by rw [hlen]; exact hfull) (by omega) (by omega)).mono ?_
                    rintro e w3 ⟨rfl, h3, _⟩
                    have S3 := Lib.hid h3.kp
                    have hmin : min (j : Int) m = ((min j m : Nat) : Int) := by omega
                    have hsub : IntKind.i64.wrap ((m : Int) - ((min j m : Nat) : Int)) = (m : Int) - ((min j m : Nat) : Int) := IntWalk.i64_in _ (by omega)
                    have hd1 : (m : Int) - ((min j m : Nat) : Int) < 20 := by omega
                    have hd2 : decide ((m : Int) - ((min j m : Nat) : Int) < 20) = true := by simp [hd1]
                    clear h3 hlen
                    go_wp2_with fail
                    refine (rmake_any 2 ((m : Int) + 1) w3 (by omega) (by omega)).mono ?_
                    rintro e w' ⟨rfl, hw⟩
                    obtain rfl : w3 = w' := hw.symm
                    rw [make_is 2 ((m : Int) + 1) (by omega) (by omega)]
                    go_wp2_with fail
                    go_ret
                    exact ⟨rfl, S3.out⟩
                  · go_wp2_with fail
                    refine (sopen_full HT.out.1 (by rw [hlen]; omega)).mono ?_
                    rintro e w' ⟨rfl, hw⟩
                    obtain rfl : wr = w' := hw.symm
                    have S3 := Lib.hid HT.out.kp
                    have hmin : min (j : Int) m = ((min j m : Nat) : Int) := by omega
                    have hsub : IntKind.i64.wrap ((m : Int) - ((min j m : Nat) : Int)) = (m : Int) - ((min j m : Nat) : Int) := IntWalk.i64_in _ (by omega)
                    have hd1 : ¬ (m : Int) - ((min j m : Nat) : Int) < 20 := by omega
                    have hd2 : decide ((m : Int) - ((min j m : Nat) : Int) < 20) = false := by simp [hd1]
                    clear hlen
                    go_wp2_with fail
                    go_ret
                    exact ⟨rfl, S3.out⟩

set_option linter.unusedVariables false
set_option maxRecDepth 100000 in
theorem lifted (os : Os) (started : os.Started) (H : Type) (enc : TypeId × Value → H) :
    ReturnsInHanded {} Tryz.checked os 4 .any (Rows.sessFullSpec.pre6 enc Tryz.prog Tryz.f4 Rows.sessFullRow.domain false) (Rows.sessFullSpec.post enc Tryz.prog Tryz.f4 false true false false) := by
  refine returnsInHanded_of_change (C := Tryz.checked) own started (by kernel_rfl) Tryz.func4
    (ChangeSpec.witness6 (enc := enc) (C := Tryz.checked) false ⟨#[], #[.int .i64 0, .int .i64 0], []⟩ 8 (by kernel_rfl) (by kernel_rfl) (by kernel_rfl) (by kernel_rfl)) ?_
  intro W base args ds gs before hval0 hW hcnd _
  have hval : ∀ (j : Nat) t v, Tryz.f4.params[j]? = some t → args[j]? = some v → Value.okWide Tryz.prog W .any base t v := hval0
  have hW' := hW
  obtain ⟨p, q, hA0, hV, rfl, hfz, hnd⟩ := hW
  have hA : DataW.TrodAll enc Tryz.prog W 0 (fun _ => true) true Tryz.f4.params.toList args.toList ds p := hA0
  rw [Tryz.params4] at hA hval
  obtain ⟨v0, vs0, d0, ds0, p0, q0, hargs, rfl, rfl, h0, r0⟩ := trodAll_cons hA
  obtain ⟨v1, vs1, d1, ds1, p1, q1, rfl, rfl, rfl, h1, r1⟩ := trodAll_cons r0
  obtain ⟨rfl, rfl, rfl⟩ := trodAll_nil r1
  obtain rfl : args = #[v0, v1] := by cases args; simp_all
  obtain ⟨rfl, rfl⟩ := trodVars_none hV
  obtain ⟨a0, rfl, rfl, rfl, w0⟩ := open_int Tryz.underlying3 (hval 0 3 v0 rfl rfl) h0
  obtain ⟨a1, rfl, rfl, rfl, w1⟩ := open_int Tryz.underlying3 (hval 1 3 v1 rfl rfl) h1
  clear hA0 hval0
  refine (walk W a0 w0 a1 w1).mono fun e W' ⟨he, hk⟩ => ?_
  subst he
  have bel := Keep.below hk
  exact ⟨_, rfl, _, _, _, [], _, [], hW', trodAll_mk1 (shut_bool Tryz.underlying4 _), (trodAll_cons_mk (shut_int Tryz.underlying3 w0) (trodAll_cons_mk (shut_int Tryz.underlying3 w1) trodAll_mk0)), rfl, bel.frame _, fun h => by cases h⟩

theorem over : Rows.sessFullRow.holds Tryz.pinned (OpenSpec.ofChange Rows.sessFullSpec) :=
  OpenClaim.holds_of_wide 4 Tryz.f4 rfl rfl rfl rfl rfl rfl rfl ⟨rfl, rfl, rfl, rfl, rfl⟩ rfl rfl rfl rfl rfl (by kernel_rfl) Tryz.func4 (by kernel_rfl)
    (of_decide_eq_true (by kernel_rfl)) (by unfold Func.isWrapper; rw [if_neg (of_decide_eq_false (by kernel_rfl))]; exact ⟨rfl, rfl⟩)
    (fun os started H enc _ => lifted os started H enc)

/-- The statement. -/
theorem proved : Rows.SessFullSaid := over
#print axioms proved
end Go.Proofs.YtdbgplnjppaimaaGreat.sessFull
