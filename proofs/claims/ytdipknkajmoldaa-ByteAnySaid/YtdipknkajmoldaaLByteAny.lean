/- ByteAny: the law returns true and changes nothing that was there. No conditions. -/
import Derived.Test.YtdipknkajmoldaaLawBase
import Derived.Test.YtdipknkajmoldaaRefIn2
import Derived.Test.YtdipknkajmoldaaRefSum
import Derived.Test.YtdipknkajmoldaaRows
import Derived.WalkKit
import Derived.ProofKit
import Derived.OpenShut
import Derived.ShutString
import Derived.ChangeOld
import Derived.Below
namespace Go.Proofs.Ytdipknkajmoldaa.byteAny
open Go Go.ChangeShapes Go.WideShapes Go.ChangeAt Go.RowKit
open Go.ChangeMaps (open_string shut_string)

theorem own : ownKnob Try.prog.godebug = none := by kernel_rfl
theorem laidOut : laidOutB Try.prog = true := by kernel_rfl

theorem nofd {w : World} (n : Nat) : Keep NoF w (w.drewN n) := (Keep.refl NoF w).drewN n

set_option maxHeartbeats 4000000 in
theorem walk (w : World) (a0 : Option Addr) (len0 cap0 : Nat) (z0 : List Int) (h0 : IsRow .u8 w a0 len0 cap0 z0) (a1 : Option Addr) (len1 cap1 : Nat) (z1 : List Int) (h1 : IsRow .i64 w a1 len1 cap1 z1) :
    Calls Try.prog 4 #[.slice a0 len0 cap0, .slice a1 len1 cap1] w fun e w' => e = .returned (.bool true) ∧ Keep NoF w w' := by
  obtain ⟨l0, hl0, s0⟩ := h0.slb
  have S0 := Lib.hid s0; have E0 := Lib.hid hl0; have H1 := Lib.hid h1
  have hle := h1.le
  unfold maxLen at hle
  have hcap1 : len1 ≤ 9223372036854775807 := by omega
  clear s0 hl0 h0 h1 hle
  go_enter Try.func4, Try.ntmps4
  go_wp2_with fail
  refine (begun_any w).mono ?_
  rintro e w1 ⟨rfl, hk⟩
  have K1 := Lib.hid hk; clear hk
  go_wp2_with fail
  refine (short_at a0 len0 cap0 l0 80 w1 (S0.out.keep K1.out (fun _ _ f => f)) E0.out (by decide) (by decide)).mono ?_
  rintro e w2 ⟨v, rfl, hO, hk, hf⟩
  have K2 := Lib.hid (K1.out.trans' hk)
  have hp80 : (l0.take (Int.toNat 80)).length ≤ 80 := by rw [List.length_take]; exact Nat.min_le_left _ _
  generalize l0.take (Int.toNat 80) = p at hO hp80
  obtain ⟨ao1, cp1, rfl, sp, bp⟩ := hO.slb
  have hlt : ∀ g, blockOf ao1 = some g → g < w2.heap.size := fun g hg => hO.lt g (bp ▸ hg)
  have SP := Lib.hid sp; have HL := Lib.hid hlt
  clear hk hO hf sp bp hlt
  go_wp2_with fail
  refine (read_any ao1 cp1 p w2 SP.out HL.out).mono ?_
  rintro e w3 ⟨rfl, hR, hk⟩
  obtain ⟨P, hP⟩ : ∃ P, w2.heap.size = P := ⟨_, rfl⟩
  rw [hP] at hR ⊢
  have HP := Lib.hid hP; clear hP
  have HR := Lib.hid hR; have K23 := Lib.hid hk
  have hP3 : P < w3.heap.size := by obtain ⟨_, _, _, _, hV, _⟩ := hR; exact lt_of_heap hV.1
  clear hR hk
  go_wp2_with fail
  obtain ⟨Q, hQ⟩ : ∃ Q, w3.heap.size = Q := ⟨_, rfl⟩
  rw [hQ] at hP3 ⊢
  have hR3 : InR (w3.alloc (.cells #[.slice ao1 p.length cp1, .bool false] 45)) P (blockOf ao1) (some p) := HR.out.keep ((Keep.refl NoF w3).alloc _) (fun f => f) (fun _ _ f => f)
  have hQr : RInR (w3.alloc (.cells #[.slice ao1 p.length cp1, .bool false] 45)) Q (blockOf ao1) (some p) := by
    subst hQ
    refine ⟨ao1, cp1, p, false, ⟨heap_new _ _, (SP.out.keep K23.out (fun _ _ f => f)).keep ((Keep.refl NoF w3).alloc _) (fun _ _ f => f), ?_⟩, rfl, rfl⟩
    intro e; have := HL.out _ e; have := HP.out; omega
  have k4 : Keep NoF w (w3.alloc (.cells #[.slice ao1 p.length cp1, .bool false] 45)) := (K2.out.trans' K23.out).alloc _
  have HB : Hid (w.heap.size ≤ P ∧ w.heap.size ≤ Q) := ⟨by have := HP.out; have := K2.out.size; omega, by have := (K2.out.trans' K23.out).size; omega⟩
  have HG : Hid (∀ k, blockOf ao1 = some k → k < P ∧ k < Q) := fun k hk => by have := HL.out k hk; have := HP.out; omega
  have hpq : P ≠ Q := by omega
  have HPQ := Lib.hid hpq; clear hpq
  have HR4 := Lib.hid hR3; have HQ4 := Lib.hid hQr; have K4 := Lib.hid k4
  clear hR3 hQr k4 HR K23 SP HL HP hP3 K1
  generalize blockOf ao1 = g at HR4 HQ4 HG
  go_loopw [8] (fun i wr => ∃ k : Nat, k ≤ len1 ∧ i = .int .i64 k ∧ ∃ st, InR wr P g st ∧ RInR wr Q g st ∧ Keep NoF w wr) (fun i _ => len1 - (intOf i).toNat)
  case atStart => exact ⟨0, Nat.zero_le _, rfl, some p, HR4.out, HQ4.out, K4.out⟩
  case round =>
    obtain ⟨k, hk, rfl, st, hR, hRr, hK⟩ := hrel
    have HK := Lib.hid hK
    clear HR4 HQ4 K4 hK
    by_cases hlt : k < len1
    · by_cases h30 : k < 30
      · obtain ⟨gk, ok, rfl, hck, hwf⟩ := (H1.out).cellAt k hlt
        obtain ⟨c, hcw⟩ : ∃ c, z1.getD k 0 = c := ⟨_, rfl⟩
        rw [hcw] at hck hwf
        have hckr := HK.out.cell' hck (fun f => f)
        have hm3 : bits .and .i64 c 3 = c % 4 := and_3_i64 c
        obtain ⟨q, hq⟩ : ∃ q, c % 4 = q := ⟨_, rfl⟩
        have hq4 : 0 ≤ q ∧ q < 4 := by omega
        rw [hq] at hm3
        have bc := bounds_i64 hwf
        clear hck hwf hcw hq
        have hlt2 : (k : Int) < len1 := by omega
        have h302 : (k : Int) < 30 := by omega
        by_cases q0 : q = 0
        · subst q0
          go_wp2_with fail
          refine (insmall_any P _ _ _ hR).mono ?_
          rintro e wa ⟨rfl, hRa, hka⟩
          have hRr0 := hRr.keep hka (fun e => HPQ.out e.symm) (fun k hk e => by have := HG.out k hk; omega)
          go_wp2_with fail
          refine (rsmall_any Q _ _ _ hRr0).mono ?_
          rintro e wb ⟨rfl, hRr2, hkb⟩
          have hRa2 := hRa.keep hkb (fun e => HPQ.out e) (fun k hk e => by have := HG.out k hk; omega)
          have hKt : Keep NoF w wb := (HK.out.trans hka (fun _ _ f => f) (fun i hi f => by have := HB.out; omega)).trans hkb (fun _ _ f => f) (fun i hi f => by have := HB.out; omega)
          clear hR hRr0 hka hkb
          have HRa := Lib.hid hRa2; have HRr := Lib.hid hRr2; have HKt := Lib.hid hKt
          clear hRa hRr hKt hRa2 hRr2
          generalize rdS 2 st = st2 at HRa HRr
          obtain ⟨ao5, cp5, l5, bad5, hV5, hb5, hst5⟩ := HRr.out
          have hbc := cell_of_heap hV5.1 1
          simp at hbc
          have hin : st2.isNone = bad5 := by rw [← hst5]; cases bad5 <;> rfl
          clear hV5 hb5 hst5
          have ib := fun n => inbad_any P _ _ _ (HRa.out.keep (nofd n) (fun f => f) (fun _ _ f => f))
          rw [hin] at ib
          have IB := Lib.hid ib; clear ib hin
          go_wp2_with fail
          go_quiet ((first | (go_at_call 26; exact Calls.quiet_of_same ((IB.out _).mono fun e w' h => ⟨h.1, h.2.symm⟩)) | (go_at_call 27; exact Calls.quiet_of_same ((inleft_any P _ _ _ (HRa.out.keep (nofd _) (fun f => f) (fun _ _ f => f))).mono fun e w' h => ⟨h.1, h.2.symm⟩)) | (go_at_call 25; exact Calls.quiet_of_same ((inend_any P _ _ _ (HRa.out.keep (nofd _) (fun f => f) (fun _ _ f => f))).mono fun e w' h => ⟨h.1, h.2.symm⟩)) | (go_at_call 37; exact Calls.quiet_of_same ((rleft_any Q _ _ _ (HRr.out.keep (nofd _) (fun f => f) (fun _ _ f => f))).mono fun e w' h => ⟨h.1, h.2⟩)) | (go_at_call 38; exact Calls.quiet_of_same ((rend_any Q _ _ _ (HRr.out.keep (nofd _) (fun f => f) (fun _ _ f => f))).mono fun e w' h => ⟨h.1, h.2⟩))))
          go_wp2_with fail
          go_roundw
          case rel => exact ⟨k + 1, by omega, by go_num, st2, HRa.out.keep (nofd _) (fun f => f) (fun _ _ f => f), HRr.out.keep (nofd _) (fun f => f) (fun _ _ f => f), HKt.out.drewN _⟩
          case measure => simp [intOf]; omega
        · by_cases q1 : q = 1
          · subst q1
            go_wp2_with fail
            refine (inlong_any P _ _ _ hR).mono ?_
            rintro e wa ⟨rfl, hRa, hka⟩
            have hRr0 := hRr.keep hka (fun e => HPQ.out e.symm) (fun k hk e => by have := HG.out k hk; omega)
            go_wp2_with fail
            refine (rlong_any Q _ _ _ hRr0).mono ?_
            rintro e wb ⟨rfl, hRr2, hkb⟩
            have hRa2 := hRa.keep hkb (fun e => HPQ.out e) (fun k hk e => by have := HG.out k hk; omega)
            have hKt : Keep NoF w wb := (HK.out.trans hka (fun _ _ f => f) (fun i hi f => by have := HB.out; omega)).trans hkb (fun _ _ f => f) (fun i hi f => by have := HB.out; omega)
            clear hR hRr0 hka hkb
            have HRa := Lib.hid hRa2; have HRr := Lib.hid hRr2; have HKt := Lib.hid hKt
            clear hRa hRr hKt hRa2 hRr2
            generalize rdS 8 st = st2 at HRa HRr
            obtain ⟨ao5, cp5, l5, bad5, hV5, hb5, hst5⟩ := HRr.out
            have hbc := cell_of_heap hV5.1 1
            simp at hbc
            have hin : st2.isNone = bad5 := by rw [← hst5]; cases bad5 <;> rfl
            clear hV5 hb5 hst5
            have ib := fun n => inbad_any P _ _ _ (HRa.out.keep (nofd n) (fun f => f) (fun _ _ f => f))
            rw [hin] at ib
            have IB := Lib.hid ib; clear ib hin
            go_wp2_with fail
            go_quiet ((first | (go_at_call 26; exact Calls.quiet_of_same ((IB.out _).mono fun e w' h => ⟨h.1, h.2.symm⟩)) | (go_at_call 27; exact Calls.quiet_of_same ((inleft_any P _ _ _ (HRa.out.keep (nofd _) (fun f => f) (fun _ _ f => f))).mono fun e w' h => ⟨h.1, h.2.symm⟩)) | (go_at_call 25; exact Calls.quiet_of_same ((inend_any P _ _ _ (HRa.out.keep (nofd _) (fun f => f) (fun _ _ f => f))).mono fun e w' h => ⟨h.1, h.2.symm⟩)) | (go_at_call 37; exact Calls.quiet_of_same ((rleft_any Q _ _ _ (HRr.out.keep (nofd _) (fun f => f) (fun _ _ f => f))).mono fun e w' h => ⟨h.1, h.2⟩)) | (go_at_call 38; exact Calls.quiet_of_same ((rend_any Q _ _ _ (HRr.out.keep (nofd _) (fun f => f) (fun _ _ f => f))).mono fun e w' h => ⟨h.1, h.2⟩))))
            go_wp2_with fail
            go_roundw
            case rel => exact ⟨k + 1, by omega, by go_num, st2, HRa.out.keep (nofd _) (fun f => f) (fun _ _ f => f), HRr.out.keep (nofd _) (fun f => f) (fun _ _ f => f), HKt.out.drewN _⟩
            case measure => simp [intOf]; omega
          · by_cases q2 : q = 2
            · subst q2
              go_wp2_with fail
              refine (intext_any P _ _ _ hR).mono ?_
              rintro e wa ⟨rfl, hRa, hka⟩
              have hRr0 := hRr.keep hka (fun e => HPQ.out e.symm) (fun k hk e => by have := HG.out k hk; omega)
              go_wp2_with fail
              refine (rtext_any Q _ _ _ hRr0).mono ?_
              rintro e wb ⟨rfl, hRr2, hkb⟩
              have hRa2 := hRa.keep hkb (fun e => HPQ.out e) (fun k hk e => by have := HG.out k hk; omega)
              have hKt : Keep NoF w wb := (HK.out.trans hka (fun _ _ f => f) (fun i hi f => by have := HB.out; omega)).trans hkb (fun _ _ f => f) (fun i hi f => by have := HB.out; omega)
              clear hR hRr0 hka hkb
              have HRa := Lib.hid hRa2; have HRr := Lib.hid hRr2; have HKt := Lib.hid hKt
              clear hRa hRr hKt hRa2 hRr2
              generalize rdTs st = st2 at HRa HRr
              obtain ⟨ao5, cp5, l5, bad5, hV5, hb5, hst5⟩ := HRr.out
              have hbc := cell_of_heap hV5.1 1
              simp at hbc
              have hin : st2.isNone = bad5 := by rw [← hst5]; cases bad5 <;> rfl
              clear hV5 hb5 hst5
              have ib := fun n => inbad_any P _ _ _ (HRa.out.keep (nofd n) (fun f => f) (fun _ _ f => f))
              rw [hin] at ib
              have IB := Lib.hid ib; clear ib hin
              go_wp2_with fail
              go_quiet ((first | (go_at_call 26; exact Calls.quiet_of_same ((IB.out _).mono fun e w' h => ⟨h.1, h.2.symm⟩)) | (go_at_call 27; exact Calls.quiet_of_same ((inleft_any P _ _ _ (HRa.out.keep (nofd _) (fun f => f) (fun _ _ f => f))).mono fun e w' h => ⟨h.1, h.2.symm⟩)) | (go_at_call 25; exact Calls.quiet_of_same ((inend_any P _ _ _ (HRa.out.keep (nofd _) (fun f => f) (fun _ _ f => f))).mono fun e w' h => ⟨h.1, h.2.symm⟩)) | (go_at_call 37; exact Calls.quiet_of_same ((rleft_any Q _ _ _ (HRr.out.keep (nofd _) (fun f => f) (fun _ _ f => f))).mono fun e w' h => ⟨h.1, h.2⟩)) | (go_at_call 38; exact Calls.quiet_of_same ((rend_any Q _ _ _ (HRr.out.keep (nofd _) (fun f => f) (fun _ _ f => f))).mono fun e w' h => ⟨h.1, h.2⟩))))
              go_wp2_with fail
              go_roundw
              case rel => exact ⟨k + 1, by omega, by go_num, st2, HRa.out.keep (nofd _) (fun f => f) (fun _ _ f => f), HRr.out.keep (nofd _) (fun f => f) (fun _ _ f => f), HKt.out.drewN _⟩
              case measure => simp [intOf]; omega
            · have e0 : (q == 0) = false := by simp; exact q0
              have e1 : (q == 1) = false := by simp; exact q1
              have e2 : (q == 2) = false := by simp; exact q2
              clear q0 q1 q2
              go_wp2_with fail
              refine (intruth_any P _ _ _ hR).mono ?_
              rintro e wa ⟨rfl, hRa, hka⟩
              have hRr0 := hRr.keep hka (fun e => HPQ.out e.symm) (fun k hk e => by have := HG.out k hk; omega)
              go_wp2_with fail
              refine (rtruth_any Q _ _ _ hRr0).mono ?_
              rintro e wb ⟨rfl, hRr2, hkb⟩
              have hRa2 := hRa.keep hkb (fun e => HPQ.out e) (fun k hk e => by have := HG.out k hk; omega)
              have hKt : Keep NoF w wb := (HK.out.trans hka (fun _ _ f => f) (fun i hi f => by have := HB.out; omega)).trans hkb (fun _ _ f => f) (fun i hi f => by have := HB.out; omega)
              clear hR hRr0 hka hkb
              have HRa := Lib.hid hRa2; have HRr := Lib.hid hRr2; have HKt := Lib.hid hKt
              clear hRa hRr hKt hRa2 hRr2
              generalize rdTr st = st2 at HRa HRr
              obtain ⟨ao5, cp5, l5, bad5, hV5, hb5, hst5⟩ := HRr.out
              have hbc := cell_of_heap hV5.1 1
              simp at hbc
              have hin : st2.isNone = bad5 := by rw [← hst5]; cases bad5 <;> rfl
              clear hV5 hb5 hst5
              have ib := fun n => inbad_any P _ _ _ (HRa.out.keep (nofd n) (fun f => f) (fun _ _ f => f))
              rw [hin] at ib
              have IB := Lib.hid ib; clear ib hin
              go_wp2_with fail
              go_quiet ((first | (go_at_call 26; exact Calls.quiet_of_same ((IB.out _).mono fun e w' h => ⟨h.1, h.2.symm⟩)) | (go_at_call 27; exact Calls.quiet_of_same ((inleft_any P _ _ _ (HRa.out.keep (nofd _) (fun f => f) (fun _ _ f => f))).mono fun e w' h => ⟨h.1, h.2.symm⟩)) | (go_at_call 25; exact Calls.quiet_of_same ((inend_any P _ _ _ (HRa.out.keep (nofd _) (fun f => f) (fun _ _ f => f))).mono fun e w' h => ⟨h.1, h.2.symm⟩)) | (go_at_call 37; exact Calls.quiet_of_same ((rleft_any Q _ _ _ (HRr.out.keep (nofd _) (fun f => f) (fun _ _ f => f))).mono fun e w' h => ⟨h.1, h.2⟩)) | (go_at_call 38; exact Calls.quiet_of_same ((rend_any Q _ _ _ (HRr.out.keep (nofd _) (fun f => f) (fun _ _ f => f))).mono fun e w' h => ⟨h.1, h.2⟩))))
              go_wp2_with fail
              go_roundw
              case rel => exact ⟨k + 1, by omega, by go_num, st2, HRa.out.keep (nofd _) (fun f => f) (fun _ _ f => f), HRr.out.keep (nofd _) (fun f => f) (fun _ _ f => f), HKt.out.drewN _⟩
              case measure => simp [intOf]; omega
      · go_wp2_with fail
        go_ret
        exact ⟨rfl, HK.out⟩
    · obtain rfl : k = len1 := by omega
      go_wp2_with fail
      go_ret
      exact ⟨rfl, HK.out⟩

set_option linter.unusedVariables false
set_option maxRecDepth 100000 in
theorem lifted (os : Os) (started : os.Started) (H : Type) (enc : TypeId × Value → H) :
    ReturnsInHanded {} Try.checked os 4 .any (Rows.byteAnySpec.pre6 enc Try.prog Try.f4 Rows.byteAnyRow.domain false) (Rows.byteAnySpec.post enc Try.prog Try.f4 false true false false) := by
  refine returnsInHanded_of_change (C := Try.checked) own started (by kernel_rfl) Try.func4
    (ChangeSpec.witness6 (enc := enc) (C := Try.checked) false ⟨#[], #[.slice none 0 0, .slice none 0 0], []⟩ 8 (by kernel_rfl) (by kernel_rfl) (by kernel_rfl) (by kernel_rfl)) ?_
  intro W base args ds gs before hval0 hW hcnd _
  have hval : ∀ (j : Nat) t v, Try.f4.params[j]? = some t → args[j]? = some v → Value.okWide Try.prog W .any base t v := hval0
  have hW' := hW
  obtain ⟨p, q, hA0, hV, rfl, hfz, hnd⟩ := hW
  have hA : DataW.TrodAll enc Try.prog W 0 (fun _ => true) true Try.f4.params.toList args.toList ds p := hA0
  rw [Try.params4] at hA hval
  obtain ⟨v0, vs0, d0, ds0, p0, q0, hargs, rfl, rfl, h0, r0⟩ := trodAll_cons hA
  obtain ⟨v1, vs1, d1, ds1, p1, q1, rfl, rfl, rfl, h1, r1⟩ := trodAll_cons r0
  obtain ⟨rfl, rfl, rfl⟩ := trodAll_nil r1
  obtain rfl : args = #[v0, v1] := by cases args; simp_all
  obtain ⟨rfl, rfl⟩ := trodVars_none hV
  obtain ⟨a0, len0, cap0, rfl⟩ := okWide_slice Try.underlying25 (hval 0 25 v0 rfl rfl)
  have k0 := h0
  have lt0 : ∀ x ∈ p0, x.block < W.heap.size := by obtain ⟨m, hm⟩ := k0; exact DataW.trod_lt m _ _ _ hm
  obtain ⟨z0, w0⟩ : ∃ zs, IsRow .u8 W a0 len0 cap0 zs := by
    obtain ⟨fuel, hf⟩ := h0
    rcases open_ints Try.underlying25 Try.underlying5 (by kernel_rfl) hf with ⟨hcs, _⟩ | ⟨x, l, c, zs, hcs, _, hl, hm, hz, _, hcell, hwz⟩
    · simp [Value.cells] at hcs
      obtain ⟨rfl, rfl, rfl⟩ := hcs
      exact ⟨[], .inl ⟨rfl, rfl, rfl, rfl⟩⟩
    · simp [Value.cells] at hcs
      obtain ⟨rfl, rfl, rfl⟩ := hcs
      exact ⟨zs, .inr ⟨_, rfl, hl, hm, by simpa using hz, hcell, hwz⟩⟩
  obtain ⟨a1, len1, cap1, rfl⟩ := okWide_slice Try.underlying41 (hval 1 41 v1 rfl rfl)
  have k1 := h1
  have lt1 : ∀ x ∈ p1, x.block < W.heap.size := by obtain ⟨m, hm⟩ := k1; exact DataW.trod_lt m _ _ _ hm
  obtain ⟨z1, w1⟩ : ∃ zs, IsRow .i64 W a1 len1 cap1 zs := by
    obtain ⟨fuel, hf⟩ := h1
    rcases open_ints Try.underlying41 Try.underlying3 (by kernel_rfl) hf with ⟨hcs, _⟩ | ⟨x, l, c, zs, hcs, _, hl, hm, hz, _, hcell, hwz⟩
    · simp [Value.cells] at hcs
      obtain ⟨rfl, rfl, rfl⟩ := hcs
      exact ⟨[], .inl ⟨rfl, rfl, rfl, rfl⟩⟩
    · simp [Value.cells] at hcs
      obtain ⟨rfl, rfl, rfl⟩ := hcs
      exact ⟨zs, .inr ⟨_, rfl, hl, hm, by simpa using hz, hcell, hwz⟩⟩
  clear hA0 hval0
  refine (walk W a0 len0 cap0 z0 w0 a1 len1 cap1 z1 w1).mono fun e W' ⟨he, hk⟩ => ?_
  subst he
  have bel := Keep.below hk
  exact ⟨_, rfl, _, _, _, [], _, [], hW', trodAll_mk1 (shut_bool Try.underlying4 _), (trodAll_cons_mk (Below.trod laidOut (by kernel_rfl) (of_decide_eq_true (by kernel_rfl)) k0 bel lt0) (trodAll_cons_mk (Below.trod laidOut (by kernel_rfl) (of_decide_eq_true (by kernel_rfl)) k1 bel lt1) trodAll_mk0)), rfl, bel.frame _, fun h => by cases h⟩

theorem over : Rows.byteAnyRow.holds Try.pinned (OpenSpec.ofChange Rows.byteAnySpec) :=
  OpenClaim.holds_of_wide 4 Try.f4 rfl rfl rfl rfl rfl rfl rfl ⟨rfl, rfl, rfl, rfl, rfl⟩ rfl rfl rfl rfl rfl (by kernel_rfl) Try.func4 (by kernel_rfl)
    (of_decide_eq_true (by kernel_rfl)) (by unfold Func.isWrapper; rw [if_neg (of_decide_eq_false (by kernel_rfl))]; exact ⟨rfl, rfl⟩)
    (fun os started H enc _ => lifted os started H enc)

/-- The statement. -/
theorem proved : Rows.ByteAnySaid := over
#print axioms proved
end Go.Proofs.Ytdipknkajmoldaa.byteAny
