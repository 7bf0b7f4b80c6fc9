/- NetLook: the law returns true and changes nothing that was there. No conditions. -/
import Derived.Test.YtlabhbjampkhpaaGreatPks15
import Derived.Deep.CutRange
import Derived.Test.YtlabhbjampkhpaaGreatRows
import Derived.WalkKit
import Derived.ProofKit
import Derived.OpenShut
import Derived.ShutString
import Derived.ChangeOld
import Derived.Below
namespace Go.Proofs.YtlabhbjampkhpaaGreat.netLook
open Go Go.ChangeShapes Go.WideShapes Go.ChangeAt Go.RowKit
open Go.ChangeMaps (open_string shut_string)

theorem own : ownKnob Tryz.prog.godebug = none := by kernel_rfl
theorem laidOut : laidOutB Tryz.prog = true := by kernel_rfl

open Go.Proofs Go.RowKit
set_option maxRecDepth 40000 in
theorem open_arg0 {H : Type} {enc : TypeId × Value → H} {a : Option Addr} {len cap : Nat} {d : DataW H} {p : List MemPlace} (W : World) (_base : Nat)
    (h : DataW.Trod enc Tryz.prog W 0 (fun _ => true) true 38 (.slice a len cap) d p) : ∃ z, IsPks W a len cap z := open_pks h
theorem sent_small {p : PackV} {ps : List PackV} (h : ps.length < 400) : sentB p ps = packB p := by unfold sentB; simp [h]
set_option maxHeartbeats 16000000 in
set_option maxRecDepth 8000 in
theorem walk (w : World) (a0 : Option Addr) (len0 cap0 : Nat) (z0 : List PackV) (h0 : IsPks w a0 len0 cap0 z0) (a1 : Option Addr) (len1 cap1 : Nat) (z1 : List Int) (h1 : IsRow .i64 w a1 len1 cap1 z1) :
    Calls Tryz.prog 11 #[.slice a0 len0 cap0, .slice a1 len1 cap1] w fun e w' => e = .returned (.bool true) ∧ Keep NoF w w' := by
  obtain ⟨hl0, hok, s0⟩ := h0
  obtain ⟨l1, hl1, hwf, s1⟩ := h1.slG
  have c0 := s0.1; have c0m := s0.2.1; have c1 := s1.1; have c1m := s1.2.1
  rw [hl0] at c0; rw [hl1] at c1
  unfold maxLen at c0m c1m
  have S0 := Lib.hid s0; have HL0 := Lib.hid hl0; have HOK := Lib.hid hok
  have S1 := Lib.hid s1; have HL1 := Lib.hid hl1; have HWF := Lib.hid hwf
  clear s0 hl0 hok s1 hl1 hwf h1
  go_enter Tryz.func11, Tryz.ntmps11
  go_wp2_with fail
  refine (begun15_any w).mono ?_
  rintro e w1 ⟨rfl, hk⟩
  have K1 := Lib.hid hk; clear hk
  go_wp2_with fail
  refine (ns_new w w1 K1.out).mono ?_
  rintro e w2 ⟨nb, rfl, hS⟩
  have HS := Lib.hid hS
  clear hS
  go_wp2_with fail
  go_loopw [7, 8] (fun nv iv wr => ∃ (i m : Nat) (ps : List PackV), i ≤ len0 ∧ i ≤ 20 ∧ m ≤ i ∧ nv = .int .i64 m ∧ iv = .int .i64 i ∧ ps.length = m ∧ NS w wr nb ps) (fun _ iv _ => len0 - (intOf iv).toNat)
  case atStart => exact ⟨0, 0, [], Nat.zero_le _, Nat.zero_le _, Nat.le_refl _, rfl, rfl, rfl, HS.out⟩
  case round =>
    obtain ⟨i, m, ps, hi, hi20, hmi, rfl, rfl, hlen, hS⟩ := hrel
    have HSi := Lib.hid hS; have HLEN := Lib.hid hlen
    clear hS hlen
    by_cases hlt : i < len0 ∧ i < 20
    · obtain ⟨hlt, hlt20⟩ := hlt
      have hlt2 : (i : Int) < len0 := by omega
      have hlt3 : (i : Int) < 20 := by omega
      have hd2 : decide ((i : Int) < len0) = true := by simp [hlt2]
      have hd3 : decide ((i : Int) < 20) = true := by simp [hlt3]
      obtain ⟨g0, o0, rfl, b0, b1, b2, b3, b4, b5⟩ := sl6 (S0.out.keep HSi.out.world (fun _ _ f => f)) i (by rw [HL0.out]; exact hlt)
      have hPok := HOK.out _ (List.getElem_mem (by rw [HL0.out]; exact hlt : i < z0.length))
      generalize z0[i]'(by rw [HL0.out]; exact hlt) = P at b0 b1 b2 b3 b4 b5 hPok
      have hsd := fun W hW => ns_send w W nb P ps hW hPok
      rw [sent_small (by rw [HLEN.out]; omega)] at hsd
      have hin : ∀ p, (sendP p ps).length = m + if packB p then 1 else 0 := fun p => by
        unfold sendP
        rw [sent_small (by rw [HLEN.out]; omega)]
        cases packB p
        · simp [HLEN.out]
        · simp [insP_length, HLEN.out]
      obtain ⟨k, f, t, d, n, y⟩ := P
      have HSD := Lib.hid hsd
      unfold packVal at HSD
      generalize hps : sendP ⟨k, f, t, d, n, y⟩ ps = qs at HSD
      have HQL : Hid (qs.length = m + if packB ⟨k, f, t, d, n, y⟩ then 1 else 0) := Lib.hid (by rw [← hps]; exact hin _)
      generalize packB ⟨k, f, t, d, n, y⟩ = pb at HSD HQL
      clear hsd hin hPok hps
      dsimp only at b0 b1 b2 b3 b4 b5 HSD
      cases pb
      · go_wp2_with fail
        refine (HSD.out wr HSi.out).mono ?_
        rintro e w3 ⟨rfl, hS⟩
        have HS3 := Lib.hid hS
        clear hS b0 b1 b2 b3 b4 b5
        go_wp2_with fail
        go_roundw
        case rel => exact ⟨i + 1, m, qs, by omega, by omega, by omega, by first | go_num | rfl, by go_num, by have := HQL.out; simpa using this, HS3.out⟩
        case measure => simp [intOf]; omega
      · go_wp2_with fail
        refine (HSD.out wr HSi.out).mono ?_
        rintro e w3 ⟨rfl, hS⟩
        have HS3 := Lib.hid hS
        clear hS b0 b1 b2 b3 b4 b5
        go_wp2_with fail
        go_roundw
        case rel => exact ⟨i + 1, m + 1, qs, by omega, by omega, by omega, by first | go_num | rfl, by go_num, by have := HQL.out; simpa using this, HS3.out⟩
        case measure => simp [intOf]; omega
    · obtain ⟨wq, rfl⟩ : ∃ W, W = wr := ⟨_, rfl⟩
      have hd : (decide ((i : Int) < len0) && decide ((i : Int) < 20)) = false := by
        rw [Bool.and_eq_false_iff, decide_eq_false_iff_not, decide_eq_false_iff_not]; omega
      have hm20 : (m : Int) ≤ 20 := by omega
      have hm0 : 0 ≤ (m : Int) := by omega
      have hcase : (decide ((i : Int) < len0) = false) ∨ (decide ((i : Int) < len0) = true ∧ decide ((i : Int) < 20) = false) := by
        by_cases h1 : (i : Int) < len0
        · right; rw [decide_eq_true h1] at hd; exact ⟨decide_eq_true h1, by simpa using hd⟩
        · left; exact decide_eq_false h1
      clear hd hlt hi hi20 hmi
      have hcase2 : (decide (i < len0) = false) ∨ (decide ((i : Int) < len0) = true ∧ decide ((i : Int) < 20) = false) := by
        rcases hcase with h | h
        · left; have := of_decide_eq_false h; exact decide_eq_false (by omega)
        · exact .inr h
      clear hcase
      rcases hcase2 with hd1 | ⟨hd1, hd2⟩
      rotate_left
      have hn2 : ¬ (i : Int) < 20 := of_decide_eq_false hd2
      have hn1 : (i : Int) < len0 := of_decide_eq_true hd1
      all_goals
        go_wp2_with fail
        go_loopw [9] (fun iv wr => ∃ j : Nat, j ≤ len1 ∧ j ≤ 20 ∧ iv = .int .i64 j ∧ NS w wr nb ps) (fun iv _ => len1 - (intOf iv).toNat)
        case atStart => exact ⟨0, Nat.zero_le _, Nat.zero_le _, rfl, HSi.out⟩
        case round =>
          obtain ⟨j, hj, hj20, rfl, hS⟩ := hrel
          have HSj := Lib.hid hS
          clear hS
          (try clear hn1)
          (try clear hn2)
          (try clear hd1)
          (try clear hd2)
          by_cases hlt : j < len1 ∧ j < 20
          · obtain ⟨hlt, hlt20⟩ := hlt
            have hlt2 : (j : Int) < len1 := by omega
            have hlt3 : (j : Int) < 20 := by omega
            have hd2 : decide ((j : Int) < len1) = true := by simp [hlt2]
            have hd3 : decide ((j : Int) < 20) = true := by simp [hlt3]
            have hj1 : j < l1.length := by rw [HL1.out]; exact hlt
            obtain ⟨g1, o1, rfl, d1⟩ := (S1.out.keep HSj.out.world (fun _ _ f => f)).2.2 j hj1
            have bx := bounds_i64 (HWF.out _ (List.getElem_mem hj1))
            generalize l1[j] = x at d1 bx
            have D1 := Lib.hid d1
            have hlk := fun W hW => ns_look w W nb ps x hW bx
            obtain ⟨bl, hbl⟩ : ∃ b, inP ps x = b := ⟨_, rfl⟩
            have hib : (decide (0 ≤ x) && decide (x < m)) = bl := by rw [← hbl]; unfold inP; rw [HLEN.out]
            rw [hbl] at hlk
            generalize lookP ps x = P at hlk
            obtain ⟨k, f, t, d, n, y⟩ := P
            unfold packVal at hlk
            dsimp only at hlk
            have HLK := Lib.hid hlk
            clear hlk hbl
            go_wp2_with fail
            refine (HLK.out wr HSj.out).mono ?_
            rintro e w5 ⟨rfl, hk5⟩
            have HK5 := Lib.hid hk5
            have HS5 := Lib.hid (HSj.out.keep hk5)
            clear hk5 d1
            obtain ⟨D, hhD⟩ : ∃ D, w5.heap.size = D := ⟨_, rfl⟩
            go_upto_region 15 with fail
            have hrD := heap_new w5 (.cells #[.int .i64 k, .int .i64 f, .int .i64 t, .int .i64 d, .int .i64 n, .bool y] 23 (0, 0))
            have hkD := keep_alloc w5 (.cells #[.int .i64 k, .int .i64 f, .int .i64 t, .int .i64 d, .int .i64 n, .bool y] 23 (0, 0))
            have hsD : (w5.alloc (.cells #[.int .i64 k, .int .i64 f, .int .i64 t, .int .i64 d, .int .i64 n, .bool y] 23 (0, 0))).heap.size = w5.heap.size + 1 := size_alloc _ _
            show Code.wp _ _ _ _ (w5.alloc (.cells #[.int .i64 k, .int .i64 f, .int .i64 t, .int .i64 d, .int .i64 n, .bool y] 23 (0, 0)))
            rw [hhD] at hrD hsD
            generalize w5.alloc (.cells #[.int .i64 k, .int .i64 f, .int .i64 t, .int .i64 d, .int .i64 n, .bool y] 23 (0, 0)) = W6 at hrD hkD hsD ⊢
            (try rw [hhD])
            have HCD : Hid (∀ W : World, W.heap[D]? = W6.heap[D]? → W.cell? ⟨D, 0, none⟩ = some (.int .i64 k) ∧ W.cell? ⟨D, 1, none⟩ = some (.int .i64 f) ∧ W.cell? ⟨D, 2, none⟩ = some (.int .i64 t) ∧ W.cell? ⟨D, 3, none⟩ = some (.int .i64 d) ∧ W.cell? ⟨D, 4, none⟩ = some (.int .i64 n) ∧ W.cell? ⟨D, 5, none⟩ = some (.bool y)) := Lib.hid fun W hW => by
              have e := hW.trans hrD
              refine ⟨?_, ?_, ?_, ?_, ?_, ?_⟩
              all_goals (rw [cell_of_heap e]; rfl)
            have HKD := Lib.hid hkD; have HRD := Lib.hid hrD; have HLD : Hid (D < W6.heap.size ∧ w5.heap.size = D) := Lib.hid ⟨by omega, hhD⟩
            clear hrD hkD hsD hhD
            have HK6 := Lib.hid (HK5.out.trans' HKD.out)
            have HS6 := Lib.hid (HS5.out.keep HKD.out)
            have d1 := HK6.out.cell' D1.out (fun f => f)
            go_wp2_with fail
            refine (HLK.out W6 HS6.out).mono ?_
            rintro e w7 ⟨rfl, hk7⟩
            have HK7 := Lib.hid (HK6.out.trans' hk7)
            have HD7 := Lib.hid (hk7.block D HLD.out.1 (fun f => f))
            have HS7 := Lib.hid (HS6.out.keep hk7)
            clear hk7 d1
            obtain ⟨E, hhE⟩ : ∃ E, w7.heap.size = E := ⟨_, rfl⟩
            have hDE : D < w7.heap.size := lt_of_heap (HD7.out.trans HRD.out)
            have HDE := Lib.hid hDE
            clear hDE
            go_upto_region 16 with fail
            have hrE := heap_new w7 (.cells #[.int .i64 k, .int .i64 f, .int .i64 t, .int .i64 d, .int .i64 n, .bool y] 23 (0, 0))
            have hkE := keep_alloc w7 (.cells #[.int .i64 k, .int .i64 f, .int .i64 t, .int .i64 d, .int .i64 n, .bool y] 23 (0, 0))
            have hsE : (w7.alloc (.cells #[.int .i64 k, .int .i64 f, .int .i64 t, .int .i64 d, .int .i64 n, .bool y] 23 (0, 0))).heap.size = w7.heap.size + 1 := size_alloc _ _
            show Code.wp _ _ _ _ (w7.alloc (.cells #[.int .i64 k, .int .i64 f, .int .i64 t, .int .i64 d, .int .i64 n, .bool y] 23 (0, 0)))
            rw [hhE] at hrE hsE
            generalize w7.alloc (.cells #[.int .i64 k, .int .i64 f, .int .i64 t, .int .i64 d, .int .i64 n, .bool y] 23 (0, 0)) = W8 at hrE hkE hsE ⊢
            (try rw [hhE])
            have HCE : Hid (∀ W : World, W.heap[E]? = W8.heap[E]? → W.cell? ⟨E, 0, none⟩ = some (.int .i64 k) ∧ W.cell? ⟨E, 1, none⟩ = some (.int .i64 f) ∧ W.cell? ⟨E, 2, none⟩ = some (.int .i64 t) ∧ W.cell? ⟨E, 3, none⟩ = some (.int .i64 d) ∧ W.cell? ⟨E, 4, none⟩ = some (.int .i64 n) ∧ W.cell? ⟨E, 5, none⟩ = some (.bool y)) := Lib.hid fun W hW => by
              have e := hW.trans hrE
              refine ⟨?_, ?_, ?_, ?_, ?_, ?_⟩
              all_goals (rw [cell_of_heap e]; rfl)
            have HKE := Lib.hid hkE; have HRE := Lib.hid hrE; have HLE : Hid (E < W8.heap.size ∧ w7.heap.size = E) := Lib.hid ⟨by omega, hhE⟩
            clear hrE hkE hsE hhE
            have HS8 := Lib.hid (HS7.out.keep HKE.out)
            have d1 := (HK7.out.trans' HKE.out).cell' D1.out (fun f => f)
            obtain ⟨r0, r1, r2, r3, r4, r5⟩ := HCD.out W8 ((HKE.out.block D HDE.out (fun f => f)).trans HD7.out)
            obtain ⟨e0, e1, e2, e3, e4, e5⟩ := HCE.out W8 rfl
            have HLN := Lib.hid (ns_len w W8 nb ps HS8.out)
            rw [HLEN.out] at HLN
            by_cases hx0 : 0 ≤ x
            · have hx0d : decide (0 ≤ x) = true := decide_eq_true hx0
              by_cases hxm : x < m
              · have hxmd : decide (x < (m : Int)) = true := decide_eq_true hxm
                obtain rfl : bl = true := by rw [← hib, hx0d, hxmd]; rfl
                clear hib
                go_wp2_with fail
                refine HLN.out.mono ?_
                rintro e w' ⟨rfl, hw⟩
                obtain rfl : W8 = w' := hw.symm
                clear d1 r0 r1 r2 r3 r4 r5 e0 e1 e2 e3 e4 e5
                go_wp2_with fail
                go_roundw
                case rel => exact ⟨j + 1, by omega, by omega, by go_num, HS8.out⟩
                case measure => simp [intOf]; omega
              · have hxmd : decide (x < (m : Int)) = false := decide_eq_false hxm
                obtain rfl : bl = false := by rw [← hib, hx0d, hxmd]; rfl
                clear hib
                go_wp2_with fail
                refine HLN.out.mono ?_
                rintro e w' ⟨rfl, hw⟩
                obtain rfl : W8 = w' := hw.symm
                clear d1 r0 r1 r2 r3 r4 r5 e0 e1 e2 e3 e4 e5
                go_wp2_with fail
                go_roundw
                case rel => exact ⟨j + 1, by omega, by omega, by go_num, HS8.out⟩
                case measure => simp [intOf]; omega
            · have hx0d : decide (0 ≤ x) = false := decide_eq_false hx0
              obtain rfl : bl = false := by rw [← hib, hx0d]; rfl
              clear hib
              go_wp2_with fail
              refine HLN.out.mono ?_
              rintro e w' ⟨rfl, hw⟩
              obtain rfl : W8 = w' := hw.symm
              clear d1 r0 r1 r2 r3 r4 r5 e0 e1 e2 e3 e4 e5
              go_wp2_with fail
              go_roundw
              case rel => exact ⟨j + 1, by omega, by omega, by go_num, HS8.out⟩
              case measure => simp [intOf]; omega
          · have hcase : (decide (j < len1) = false) ∨ (decide ((j : Int) < len1) = true ∧ decide ((j : Int) < 20) = false) := by
              by_cases h1 : (j : Int) < len1
              · right; exact ⟨decide_eq_true h1, decide_eq_false (by omega)⟩
              · left; exact decide_eq_false (by omega)
            clear hlt hj hj20
            rcases hcase with hd1 | ⟨hd1, hd2⟩
            rotate_left
            have hn2 : ¬ (j : Int) < 20 := of_decide_eq_false hd2
            have hn1 : (j : Int) < len1 := of_decide_eq_true hd1
            all_goals
              go_wp2_with fail
              go_ret
              exact ⟨rfl, HSj.out.world⟩

set_option linter.unusedVariables false
set_option maxRecDepth 100000 in
theorem lifted (os : Os) (started : os.Started) (H : Type) (enc : TypeId × Value → H) :
    ReturnsInHanded {} Tryz.checked os 11 .any (Rows.netLookSpec.pre6 enc Tryz.prog Tryz.f11 Rows.netLookRow.domain false) (Rows.netLookSpec.post enc Tryz.prog Tryz.f11 false true false false) := by
  refine returnsInHanded_of_change (C := Tryz.checked) own started (by kernel_rfl) Tryz.func11
    (ChangeSpec.witness6 (enc := enc) (C := Tryz.checked) false ⟨#[], #[.slice none 0 0, .slice none 0 0], []⟩ 8 (by kernel_rfl) (by kernel_rfl) (by kernel_rfl) (by kernel_rfl)) ?_
  intro W base args ds gs before hval0 hW hcnd _
  have hval : ∀ (j : Nat) t v, Tryz.f11.params[j]? = some t → args[j]? = some v → Value.okWide Tryz.prog W .any base t v := hval0
  have hW' := hW
  obtain ⟨p, q, hA0, hV, rfl, hfz, hnd⟩ := hW
  have hA : DataW.TrodAll enc Tryz.prog W 0 (fun _ => true) true Tryz.f11.params.toList args.toList ds p := hA0
  rw [Tryz.params11] at hA hval
  obtain ⟨v0, vs0, d0, ds0, p0, q0, hargs, rfl, rfl, h0, r0⟩ := trodAll_cons hA
  obtain ⟨v1, vs1, d1, ds1, p1, q1, rfl, rfl, rfl, h1, r1⟩ := trodAll_cons r0
  obtain ⟨rfl, rfl, rfl⟩ := trodAll_nil r1
  obtain rfl : args = #[v0, v1] := by cases args; simp_all
  obtain ⟨rfl, rfl⟩ := trodVars_none hV
  obtain ⟨a0, len0, cap0, rfl⟩ := okWide_slice Tryz.underlying38 (hval 0 38 v0 rfl rfl)
  have k0 := h0
  have lt0 : ∀ x ∈ p0, x.block < W.heap.size := by obtain ⟨m, hm⟩ := k0; exact DataW.trod_lt m _ _ _ hm
  obtain ⟨z0, w0⟩ := open_arg0 W base h0
  obtain ⟨a1, len1, cap1, rfl⟩ := okWide_slice Tryz.underlying50 (hval 1 50 v1 rfl rfl)
  have k1 := h1
  have lt1 : ∀ x ∈ p1, x.block < W.heap.size := by obtain ⟨m, hm⟩ := k1; exact DataW.trod_lt m _ _ _ hm
  obtain ⟨z1, w1⟩ : ∃ zs, IsRow .i64 W a1 len1 cap1 zs := by
    obtain ⟨fuel, hf⟩ := h1
    rcases open_ints Tryz.underlying50 Tryz.underlying3 (by kernel_rfl) hf with ⟨hcs, _⟩ | ⟨x, l, c, zs, hcs, _, hl, hm, hz, _, hcell, hwz⟩
    · simp [Value.cells] at hcs
      obtain ⟨rfl, rfl, rfl⟩ := hcs
      exact ⟨[], .inl ⟨rfl, rfl, rfl, rfl⟩⟩
    · simp [Value.cells] at hcs
      obtain ⟨rfl, rfl, rfl⟩ := hcs
      exact ⟨zs, .inr ⟨_, rfl, hl, hm, by simpa using hz, hcell, hwz⟩⟩
  clear hA0 hval0
  refine (walk W a0 len0 cap0 z0 w0 a1 len1 cap1 z1 w1).mono fun e W' ⟨he, hk⟩ => ?_
  subst he
  have bel := Keep.below hk
  exact ⟨_, rfl, _, _, _, [], _, [], hW', trodAll_mk1 (shut_bool Tryz.underlying4 _), (trodAll_cons_mk (Below.trod laidOut (by kernel_rfl) (of_decide_eq_true (by kernel_rfl)) k0 bel lt0) (trodAll_cons_mk (Below.trod laidOut (by kernel_rfl) (of_decide_eq_true (by kernel_rfl)) k1 bel lt1) trodAll_mk0)), rfl, bel.frame _, fun h => by cases h⟩

theorem over : Rows.netLookRow.holds Tryz.pinned (OpenSpec.ofChange Rows.netLookSpec) :=
  OpenClaim.holds_of_wide 11 Tryz.f11 rfl rfl rfl rfl rfl rfl rfl ⟨rfl, rfl, rfl, rfl, rfl⟩ rfl rfl rfl rfl rfl (by kernel_rfl) Tryz.func11 (by kernel_rfl)
    (of_decide_eq_true (by kernel_rfl)) (by unfold Func.isWrapper; rw [if_neg (of_decide_eq_false (by kernel_rfl))]; exact ⟨rfl, rfl⟩)
    (fun os started H enc _ => lifted os started H enc)

/-- The statement. -/
theorem proved : Rows.NetLookSaid := over
#print axioms proved
end Go.Proofs.YtlabhbjampkhpaaGreat.netLook
