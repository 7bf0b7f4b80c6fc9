/- NetFull: the law returns true and changes nothing that was there. No conditions. -/
import Derived.Test.YtlabhbjampkhpaaGreatNS15
import Derived.Test.YtlabhbjampkhpaaGreatRows
import Derived.WalkKit
import Derived.ProofKit
import Derived.OpenShut
import Derived.ShutString
import Derived.ChangeOld
import Derived.Below
namespace Go.Proofs.YtlabhbjampkhpaaGreat.netFull
open Go Go.ChangeShapes Go.WideShapes Go.ChangeAt Go.RowKit
open Go.ChangeMaps (open_string shut_string)

theorem own : ownKnob Tryz.prog.godebug = none := by kernel_rfl
theorem laidOut : laidOutB Tryz.prog = true := by kernel_rfl

open Go.Proofs Go.RowKit
def pf (i : Int) : PackV := ⟨5, 1, 2, 4294967297 + i, 0, false⟩
theorem pf_good (i : Int) (h0 : 0 ≤ i) (h1 : i ≤ 410) : GoodP (pf i) := by
  refine ⟨⟨?_, ?_, ?_, ?_, ?_⟩, ?_⟩
  all_goals (try (unfold pf In64; simp only; omega))
  unfold packB pf
  have ht : tidB (4294967297 + i) = true := by
    unfold tidB homeOf
    rw [if_pos (by omega)]
    simp; omega
  simp only [ht]
  rfl
set_option maxHeartbeats 8000000 in
set_option maxRecDepth 8000 in
theorem walk (w : World) (n : Int) (hn : (Lit.int .i64 n).wf = true) (alike : Bool) :
    Calls Tryz.prog 7 #[.int .i64 n, .bool alike] w fun e w' => e = .returned (.bool true) ∧ Keep NoF w w' := by
  have bn := bounds_i64 hn
  clear hn
  go_enter Tryz.func7, Tryz.ntmps7
  go_wp2_with fail
  refine (begun15_any w).mono ?_
  rintro e w1 ⟨rfl, hk1⟩
  have K1 := Lib.hid hk1
  clear hk1
  by_cases hneg : n < 0
  · go_wp2_with fail
    go_ret
    exact ⟨rfl, K1.out⟩
  by_cases hbig : 410 < n
  · have hd : decide (n < 0) = false := by simp; omega
    have hd2 : decide (410 < n) = true := by simp; omega
    have hn2 : ¬ n < 0 := hneg
    go_wp2_with fail
    go_ret
    exact ⟨rfl, K1.out⟩
  obtain ⟨N, rfl⟩ : ∃ N : Nat, n = N := ⟨n.toNat, by omega⟩
  have hN : N ≤ 410 := by omega
  have hN0 : 0 ≤ (N : Int) := by omega
  have hN1 : (N : Int) ≤ 410 := by omega
  have hd : decide ((N : Int) < 0) = false := by simp
  have hd2 : decide ((410 : Int) < N) = false := by simp; omega
  clear hneg hbig bn
  go_wp2_with fail
  refine (ns_new w w1 K1.out).mono ?_
  rintro e w2 ⟨nb, rfl, hS⟩
  have HS := Lib.hid hS
  clear hS hd hd2
  go_wp2_with fail
  go_loopw [7] (fun iv wr => ∃ (i : Nat) (ps : List PackV), i ≤ N ∧ iv = .int .i64 i ∧ NS w wr nb ps ∧ ps.length = min i 400) (fun iv _ => N - (intOf iv).toNat)
  case atStart => exact ⟨0, [], Nat.zero_le _, rfl, HS.out, rfl⟩
  case round =>
    obtain ⟨i, ps, hi, rfl, hS, hlen⟩ := hrel
    have HSi := Lib.hid hS; have HL := Lib.hid hlen
    clear hS hlen
    by_cases hlt : i < N
    · have hlt2 : (i : Int) < N := by omega
      obtain ⟨b4, hb4⟩ : ∃ b : Bool, decide ((i : Int) < 400) = b := ⟨_, rfl⟩
      have hsent : ∀ p, GoodP p → sentB p ps = b4 := fun p hp => by
        unfold sentB
        rw [hp.2, Bool.true_and, ← hb4, HL.out, Bool.eq_iff_iff, decide_eq_true_eq, decide_eq_true_eq]
        omega
      have hlen2 : ∀ p, GoodP p → (sendP p ps).length = min (i + 1) 400 := fun p hp => by
        have h1 := hsent p hp
        unfold sendP
        rw [h1]
        cases b4
        · have := HL.out; have : ¬ (i : Int) < 400 := of_decide_eq_false hb4
          rw [if_neg (by simp)]; omega
        · have := HL.out; have : (i : Int) < 400 := of_decide_eq_true hb4
          rw [if_pos rfl, insP_length]; omega
      have HSENT : Hid (∀ (j : Int), 0 ≤ j → j ≤ 410 → ∀ W, NS w W nb ps → Calls Tryz.prog 21 #[.pointer (some ⟨nb, 0, none⟩), .agg #[.int .i64 5, .int .i64 1, .int .i64 2, .int .i64 (4294967297 + j), .int .i64 0, .bool false]] W fun e w' => e = .returned (.bool b4) ∧ ∃ qs, NS w w' nb qs ∧ qs.length = min (i + 1) 400) := Lib.hid fun j h0 h1 W hW => by
        refine (ns_send w W nb (pf j) ps hW (pf_good j h0 h1).1).mono ?_
        rintro e w' ⟨rfl, h2⟩
        exact ⟨by rw [hsent _ (pf_good j h0 h1)], _, h2, hlen2 _ (pf_good j h0 h1)⟩
      have hsum : IntKind.i64.wrap (4294967297 + (i : Int)) = 4294967297 + i := IntWalk.i64_in _ (by omega)
      clear hsent hlen2
      cases alike
      · go_wp2_with fail
        refine (HSENT.out i (by omega) (by omega) _ (HSi.out.keep (keep_alloc _ _))).mono ?_
        rintro e w3 ⟨rfl, qs, hq, hql⟩
        have HQ := Lib.hid hq; have HQL := Lib.hid hql
        clear hq hql
        cases b4
        all_goals
          go_wp2_with fail
          go_roundw
          case rel => exact ⟨i + 1, qs, by omega, by go_num, HQ.out, HQL.out⟩
          case measure => simp [intOf]; omega
      · go_wp2_with fail
        refine (HSENT.out 0 (by omega) (by omega) _ (HSi.out.keep (keep_alloc _ _))).mono ?_
        rintro e w3 ⟨rfl, qs, hq, hql⟩
        have HQ := Lib.hid hq; have HQL := Lib.hid hql
        clear hq hql
        cases b4
        all_goals
          go_wp2_with fail
          go_roundw
          case rel => exact ⟨i + 1, qs, by omega, by go_num, HQ.out, HQL.out⟩
          case measure => simp [intOf]; omega
    · have hlt2 : ¬ (i : Int) < N := by omega
      have HL2 : Hid (ps.length = min N 400) := Lib.hid (by have := HL.out; omega)
      have HTW := Lib.hid (fun W (hW : NS w W nb ps) => ns_twice w W nb ps 0 hW (by decide))
      have htb : twiceB ps 0 = (decide ((0 : Int) < N) && decide ((N : Int) < 400)) := by
        have := HL2.out
        unfold twiceB inP
        rw [Bool.eq_iff_iff]
        simp only [Bool.and_eq_true, decide_eq_true_eq]
        omega
      rw [htb] at HTW
      have HLEN := Lib.hid (ns_len w wr nb ps HSi.out)
      rw [HL2.out] at HLEN
      clear htb
      by_cases h4 : N < 400
      · have hmin : min N 400 = N := by omega
        have h4i : (N : Int) < 400 := by omega
        have h4d : decide ((N : Int) < 400) = true := by simp; omega
        have hmm : min (N : Int) 400 = N := by omega
        rw [hmin] at HLEN
        rw [h4d, Bool.and_true] at HTW
        clear hmin
        by_cases h00 : N = 0
        · subst h00
          have hm0 : min (0 : Int) 400 = 0 := by decide
          have h01d : decide ((0 : Int) < ((0 : Nat) : Int)) = false := by decide
          rw [h01d] at HTW
          clear hN0 hmm h4i h4d h01d
          go_wp2_with fail
          refine HLEN.out.mono ?_
          rintro e w' ⟨rfl, hw⟩
          obtain rfl : wr = w' := hw.symm
          go_wp2_with fail
          refine (HTW.out wr HSi.out).mono ?_
          rintro e w5 ⟨rfl, hS5⟩
          have K5 := Lib.hid hS5.world
          clear hS5
          go_wp2_with fail
          go_ret
          exact ⟨rfl, K5.out⟩
        · have h01 : (0 : Int) < N := by omega
          have h01d : decide ((0 : Int) < N) = true := by simp; omega
          rw [h01d] at HTW
          go_wp2_with fail
          refine HLEN.out.mono ?_
          rintro e w' ⟨rfl, hw⟩
          obtain rfl : wr = w' := hw.symm
          go_wp2_with fail
          refine (HTW.out wr HSi.out).mono ?_
          rintro e w5 ⟨rfl, hS5⟩
          have K5 := Lib.hid hS5.world
          clear hS5
          go_wp2_with fail
          go_ret
          exact ⟨rfl, K5.out⟩
      · have hmin : min N 400 = 400 := by omega
        have h4i : ¬ (N : Int) < 400 := by omega
        have h4d : decide ((N : Int) < 400) = false := by simp; omega
        have hmm : min (N : Int) 400 = 400 := by omega
        have h01 : (0 : Int) < N := by omega
        have h01d : decide ((0 : Int) < N) = true := by simp; omega
        rw [hmin] at HLEN
        rw [h4d, Bool.and_false] at HTW
        clear hmin
        go_wp2_with fail
        refine HLEN.out.mono ?_
        rintro e w' ⟨rfl, hw⟩
        obtain rfl : wr = w' := hw.symm
        go_wp2_with fail
        refine (HTW.out wr HSi.out).mono ?_
        rintro e w5 ⟨rfl, hS5⟩
        have K5 := Lib.hid hS5.world
        clear hS5
        go_wp2_with fail
        go_ret
        exact ⟨rfl, K5.out⟩

set_option linter.unusedVariables false
set_option maxRecDepth 100000 in
theorem lifted (os : Os) (started : os.Started) (H : Type) (enc : TypeId × Value → H) :
    ReturnsInHanded {} Tryz.checked os 7 .any (Rows.netFullSpec.pre6 enc Tryz.prog Tryz.f7 Rows.netFullRow.domain false) (Rows.netFullSpec.post enc Tryz.prog Tryz.f7 false true false false) := by
  refine returnsInHanded_of_change (C := Tryz.checked) own started (by kernel_rfl) Tryz.func7
    (ChangeSpec.witness6 (enc := enc) (C := Tryz.checked) false ⟨#[], #[.int .i64 0, .bool false], []⟩ 8 (by kernel_rfl) (by kernel_rfl) (by kernel_rfl) (by kernel_rfl)) ?_
  intro W base args ds gs before hval0 hW hcnd _
  have hval : ∀ (j : Nat) t v, Tryz.f7.params[j]? = some t → args[j]? = some v → Value.okWide Tryz.prog W .any base t v := hval0
  have hW' := hW
  obtain ⟨p, q, hA0, hV, rfl, hfz, hnd⟩ := hW
  have hA : DataW.TrodAll enc Tryz.prog W 0 (fun _ => true) true Tryz.f7.params.toList args.toList ds p := hA0
  rw [Tryz.params7] at hA hval
  obtain ⟨v0, vs0, d0, ds0, p0, q0, hargs, rfl, rfl, h0, r0⟩ := trodAll_cons hA
  obtain ⟨v1, vs1, d1, ds1, p1, q1, rfl, rfl, rfl, h1, r1⟩ := trodAll_cons r0
  obtain ⟨rfl, rfl, rfl⟩ := trodAll_nil r1
  obtain rfl : args = #[v0, v1] := by cases args; simp_all
  obtain ⟨rfl, rfl⟩ := trodVars_none hV
  obtain ⟨a0, rfl, rfl, rfl, w0⟩ := open_int Tryz.underlying3 (hval 0 3 v0 rfl rfl) h0
  obtain ⟨a1, rfl, rfl, rfl⟩ := open_bool Tryz.underlying4 (hval 1 4 v1 rfl rfl) h1
  clear hA0 hval0
  refine (walk W a0 w0 a1).mono fun e W' ⟨he, hk⟩ => ?_
  subst he
  have bel := Keep.below hk
  exact ⟨_, rfl, _, _, _, [], _, [], hW', trodAll_mk1 (shut_bool Tryz.underlying4 _), (trodAll_cons_mk (shut_int Tryz.underlying3 w0) (trodAll_cons_mk (shut_bool Tryz.underlying4 a1) trodAll_mk0)), rfl, bel.frame _, fun h => by cases h⟩

theorem over : Rows.netFullRow.holds Tryz.pinned (OpenSpec.ofChange Rows.netFullSpec) :=
  OpenClaim.holds_of_wide 7 Tryz.f7 rfl rfl rfl rfl rfl rfl rfl ⟨rfl, rfl, rfl, rfl, rfl⟩ rfl rfl rfl rfl rfl (by kernel_rfl) Tryz.func7 (by kernel_rfl)
    (of_decide_eq_true (by kernel_rfl)) (by unfold Func.isWrapper; rw [if_neg (of_decide_eq_false (by kernel_rfl))]; exact ⟨rfl, rfl⟩)
    (fun os started H enc _ => lifted os started H enc)

/-- The statement. -/
theorem proved : Rows.NetFullSaid := over
#print axioms proved
end Go.Proofs.YtlabhbjampkhpaaGreat.netFull
