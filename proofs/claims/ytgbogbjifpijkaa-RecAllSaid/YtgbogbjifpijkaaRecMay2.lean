/- Which records may be, as the document says. -/
import Derived.Test.YtgbogbjifpijkaaRecMay
open Go Go.RowKit
namespace Go.Proofs.Ytgbogbjifpijkaa

set_option maxHeartbeats 400000 in
theorem rputs_any (ao : Option Addr) (cp : Nat) (l : List PutV) (w : World) (h : SlP w ao cp l) :
    Calls Try.prog 46 #[.slice ao l.length cp] w fun e w' => e = .returned (.bool (decide (l.length ≤ 10) && putsB l)) ∧ Keep NoF w w' := by
  have hlen := h.1
  have hcap := h.2.1
  unfold maxLen at hcap
  have H := Lib.hid h
  clear h
  go_enter Try.func46, Try.ntmps46
  go_wp2_with fail
  go_loopw [3] (fun iv wr => ∃ k : Nat, k ≤ l.length ∧ iv = .int .i64 k ∧ allN k (fun i => putB (l.getD i default)) = true ∧ Keep NoF w wr) (fun iv _ => l.length - (intOf iv).toNat)
  case atStart => exact ⟨0, Nat.zero_le _, rfl, rfl, Keep.refl _ _⟩
  case round =>
    obtain ⟨k, hk, rfl, hok, hK⟩ := hrel
    have HA := Lib.hid hok; have HK := Lib.hid hK
    clear hok hK
    by_cases hlt : k < l.length
    · obtain ⟨g, off, rfl, c0, c1⟩ := (H.out.keep HK.out (fun _ _ f => f)).2.2.2 k hlt
      have hsz := H.out.2.2.1 _ (List.getElem_mem hlt)
      have hd : l.getD k default = l[k] := getD_of_lt l default k hlt
      obtain ⟨p, hp⟩ : ∃ p, l[k] = p := ⟨_, rfl⟩
      rw [hp] at c0 c1 hsz hd
      have hc := fun W => rput_any p W hsz.1
      have HD := Lib.hid hd; have HC := Lib.hid hc
      clear hd hp hc
      obtain ⟨q, b⟩ := p
      simp only at c0 c1
      by_cases hb : putB ⟨q, b⟩ = true
      · go_wp2_with fail
        refine (HC.out _).mono ?_
        rintro e w2 ⟨rfl, hk2⟩
        rw [hb]
        have HK2 := Lib.hid hk2; have HB := Lib.hid hb
        clear hk2 hb c0 c1
        go_wp2_with fail
        go_roundw
        case rel =>
          refine ⟨k + 1, by omega, by go_num, ?_, HK.out.trans' HK2.out⟩
          rw [allN_succ, HA.out, HD.out, HB.out]; rfl
        case measure => simp [intOf]; omega
      · have hb2 : putB ⟨q, b⟩ = false := by simpa using hb
        clear hb
        go_wp2_with fail
        refine (HC.out _).mono ?_
        rintro e w2 ⟨rfl, hk2⟩
        rw [hb2]
        have HK2 := Lib.hid hk2; have HB := Lib.hid hb2
        clear hk2 hb2 c0 c1
        go_wp2_with fail
        go_ret
        refine ⟨?_, HK.out.trans' HK2.out⟩
        have e : putsB l = false := allN_false hlt (by rw [HD.out]; exact HB.out)
        rw [e, Bool.and_false]
        rfl
    · obtain rfl : k = l.length := by omega
      go_wp2_with fail
      go_ret
      refine ⟨?_, HK.out⟩
      have e : putsB l = true := HA.out
      have e2 : decide (l.length ≤ 10) = decide ((l.length : Int) ≤ 10) := by rw [decide_eq_decide]; omega
      rw [e, Bool.and_true, e2]
      rfl

set_option maxHeartbeats 800000 in
theorem rrising_any (ao : Option Addr) (cp : Nat) (l : List Int) (w : World) (h : SlI w ao cp l) :
    Calls Try.prog 47 #[.slice ao l.length cp] w fun e w' => e = .returned (.bool (risingB l 0 7)) ∧ Keep NoF w w' := by
  have hlen := h.1
  have hcap := h.2.1
  unfold maxLen at hcap
  have H := Lib.hid h
  have hall : allN l.length (riseAt l) = true → risingB l 0 7 = decide (l.length ≤ 7) := fun h => by rw [risingB, h, Bool.true_and, decide_eq_true (Nat.zero_le _), Bool.true_and]
  have hbad : allN l.length (riseAt l) = false → risingB l 0 7 = false := fun h => by rw [risingB, h, Bool.false_and]
  have HA := Lib.hid hall; have HB := Lib.hid hbad
  clear h hall hbad
  go_enter Try.func47, Try.ntmps47
  go_wp2_with fail
  go_loopw [3] (fun iv wr => ∃ k : Nat, k ≤ l.length ∧ iv = .int .i64 k ∧ allN k (riseAt l) = true ∧ Keep NoF w wr) (fun iv _ => l.length - (intOf iv).toNat)
  case atStart => exact ⟨0, Nat.zero_le _, rfl, rfl, Keep.refl _ _⟩
  case round =>
    obtain ⟨k, hk, rfl, hok, hK⟩ := hrel
    have HK := Lib.hid hok; have HKK := Lib.hid hK; clear hok hK
    by_cases hlt : k < l.length
    · obtain ⟨g, off, rfl, c0⟩ := (H.out.keep HKK.out (fun _ _ f => f)).2.2.2 k hlt
      have hb := H.out.2.2.1 _ (List.getElem_mem hlt)
      have hd : l.getD k 0 = l[k] := getD_of_lt l 0 k hlt
      obtain ⟨x, hx⟩ : ∃ x, l[k] = x := ⟨_, rfl⟩
      rw [hx] at c0 hb hd
      unfold InI64 at hb
      have HD := Lib.hid hd
      clear hd hx
      have hcx := fun W => rbroker_any x W
      by_cases hbr : brokerB x = true
      · rw [hbr] at hcx
        have HBR := Lib.hid hbr; have HCX := Lib.hid hcx; clear hbr hcx
        by_cases h0 : k = 0
        · subst h0
          simp only [Nat.add_zero] at c0
          go_wp2_with fail
          go_quiet ((go_at_call 21; exact Calls.quiet_of_same ((HCX.out _).mono fun e w' h => ⟨h.1, h.2⟩)))
          go_wp2_with fail
          go_roundw
          case rel =>
            refine ⟨1, by omega, by go_num, ?_, HKK.out.drewN _⟩
            rw [allN_succ, HK.out, riseAt, HD.out, HBR.out]; rfl
          case measure => simp [intOf]; omega
        · obtain ⟨j, rfl⟩ : ∃ j, k = j + 1 := ⟨k - 1, by omega⟩
          obtain ⟨g2, off2, e2, c1⟩ := (H.out.keep HKK.out (fun _ _ f => f)).2.2.2 j (by omega)
          injection e2 with e2; injection e2 with e2 e3; subst e2 e3
          have hb1 := H.out.2.2.1 _ (List.getElem_mem (show j < l.length by omega))
          have hd1 : l.getD j 0 = l[j] := getD_of_lt l 0 j (by omega)
          obtain ⟨y, hy⟩ : ∃ y, l[j]'(by omega) = y := ⟨_, rfl⟩
          rw [hy] at c1 hb1 hd1
          unfold InI64 at hb1
          have HD1 := Lib.hid hd1
          clear hd1 hy h0
          have hj : ((j + 1 : Nat) : Int) - 1 = (j : Int) := by omega
          have hj0 : (0 : Int) < ((j + 1 : Nat) : Int) := by omega
          by_cases hxy : y < x
          · go_wp2_with fail
            go_quiet ((go_at_call 21; exact Calls.quiet_of_same ((HCX.out _).mono fun e w' h => ⟨h.1, h.2⟩)))
            go_wp2_with fail
            go_roundw
            case rel =>
              refine ⟨j + 1 + 1, by omega, by go_num, ?_, HKK.out.drewN _⟩
              rw [allN_succ, HK.out, riseAt, HD.out, HBR.out, show j + 1 - 1 = j from rfl, HD1.out, decide_eq_true hxy]; simp
            case measure => simp [intOf]; omega
          · have hxy2 : x ≤ y := by omega
            have hr : risingB l 0 7 = false := HB.out (allN_false hlt (by rw [riseAt, HD.out, show j + 1 - 1 = j from rfl, HD1.out, decide_eq_false hxy]; simp))
            have HR := Lib.hid hr
            clear hxy hr
            go_wp2_with fail
            go_quiet ((go_at_call 21; exact Calls.quiet_of_same ((HCX.out _).mono fun e w' h => ⟨h.1, h.2⟩)))
            go_wp2_with fail
            go_ret
            exact ⟨by rw [HR.out]; rfl, HKK.out.drewN _⟩
      · have hbr2 : brokerB x = false := by simpa using hbr
        have hr : risingB l 0 7 = false := HB.out (allN_false hlt (by rw [riseAt, HD.out, hbr2]; rfl))
        rw [hbr2] at hcx
        have HR := Lib.hid hr; have HCX := Lib.hid hcx
        clear hbr hr hcx hbr2
        go_wp2_with fail
        go_quiet ((go_at_call 21; exact Calls.quiet_of_same ((HCX.out _).mono fun e w' h => ⟨h.1, h.2⟩)))
        go_wp2_with fail
        go_ret
        exact ⟨by rw [HR.out]; rfl, HKK.out.drewN _⟩
    · obtain rfl : k = l.length := by omega
      have hr := HA.out HK.out
      have HR := Lib.hid hr
      clear hr
      go_wp2_with fail
      go_ret
      refine ⟨?_, HKK.out⟩
      rw [HR.out]
      have e : (decide ((l.length : Int) ≤ 7)) = decide (l.length ≤ 7) := by rw [decide_eq_decide]; omega
      rw [← e]
      rfl

theorem rf_id {k t i : Int} {y : Bool} {ps : List Int} {us : List PutV} (hk : k ≠ 2) (hi : i ≠ 0) : recB ⟨k, t, i, y, ps, us⟩ = false := by
  rw [Bool.eq_false_iff]; intro h; have := ((recB_iff _).1 h).2.2.1; simp only at this; rw [if_neg hk] at this; exact hi this
theorem rf_yes {k t i : Int} {ps : List Int} {us : List PutV} (hk : k ≠ 5) : recB ⟨k, t, i, true, ps, us⟩ = false := by
  rw [Bool.eq_false_iff]; intro h; have := ((recB_iff _).1 h).2.2.2.1; simp only at this
  rcases this with h | h
  · exact hk h
  · cases h
theorem rf_puts {k t i : Int} {y : Bool} {ps : List Int} {us : List PutV} (hk : putsOf k = 0) (hu : us.length ≠ 0) : recB ⟨k, t, i, y, ps, us⟩ = false := by
  rw [Bool.eq_false_iff]; intro h; have := ((recB_iff _).1 h).2.2.2.2.2.1; simp only at this; omega
theorem rf_parts {k t i : Int} {y : Bool} {ps : List Int} {us : List PutV} (hk : mostOf k = 0) (hu : ps.length ≠ 0) : recB ⟨k, t, i, y, ps, us⟩ = false := by
  rw [Bool.eq_false_iff]; intro h; have := (rising_mem ((recB_iff _).1 h).2.2.2.2.1).1; simp only at this; omega
theorem rf_kind {k t i : Int} {y : Bool} {ps : List Int} {us : List PutV} (hk : ¬ (1 ≤ k ∧ k ≤ 9)) : recB ⟨k, t, i, y, ps, us⟩ = false := by
  rw [Bool.eq_false_iff]; intro h; exact hk ((recB_iff _).1 h).1
theorem rf_tid {k t i : Int} {y : Bool} {ps : List Int} {us : List PutV} (ht : tidB t = false) : recB ⟨k, t, i, y, ps, us⟩ = false := by
  rw [Bool.eq_false_iff]; intro h; have := ((recB_iff _).1 h).2.1; rw [ht] at this; cases this
theorem rising_one (ps : List Int) : risingB ps 1 7 = (decide (1 ≤ ps.length) && risingB ps 0 7) := by
  unfold risingB
  rw [decide_eq_true (Nat.zero_le ps.length), Bool.true_and, ← Bool.and_assoc, ← Bool.and_assoc, Bool.and_comm (decide (1 ≤ ps.length))]
theorem rising_single (ps : List Int) (h : ps.length = 1) : risingB ps 1 1 = brokerB (ps.getD 0 0) := by
  unfold risingB
  rw [h]
  simp [allN, riseAt]
theorem rising_not1 (ps : List Int) (h : ps.length ≠ 1) : risingB ps 1 1 = false := by
  rw [Bool.eq_false_iff]; intro h2; have := rising_mem h2; omega
theorem rising_nil : risingB [] 0 0 = true := rfl
theorem puts_nil : putsB [] = true := rfl

set_option maxHeartbeats 4000000 in
theorem rrecord_any (r : RecV) (a4 : Option Addr) (c4 : Nat) (a5 : Option Addr) (c5 : Nat) (w : World) (h : RecAt w r a4 c4 a5 c5) :
    Calls Try.prog 32 #[recVal r a4 c4 a5 c5] w fun e w' => e = .returned (.bool (recB r)) ∧ Keep NoF w w' := by
  have H := Lib.hid h
  have bk := h.kind
  have bt := h.tid
  have bi := h.id
  clear h
  obtain ⟨k, t, i, y, ps, us⟩ := r
  have hcp4 := H.out.parts.1
  have hcp4b := H.out.parts.2.1
  have hcp5 := H.out.puts.1
  have hcp5b := H.out.puts.2.1
  unfold maxLen at hcp4b hcp5b
  unfold recVal
  unfold InI64 at bk bt bi
  simp only at bk bt bi hcp4 hcp5 ⊢
  obtain ⟨res, hres⟩ : ∃ res, recB ⟨k, t, i, y, ps, us⟩ = res := ⟨_, rfl⟩
  rw [hres]
  have HRES := Lib.hid hres; clear hres
  obtain ⟨vt, hvt⟩ : ∃ v, tidB t = v := ⟨_, rfl⟩
  have hc := fun W => rtid_any t W bt
  rw [hvt] at hc
  have HC := Lib.hid hc; have HVT := Lib.hid hvt
  clear hc hvt
  go_enter Try.func32, Try.ntmps32
  go_wp2_with fail
  refine (HC.out _).mono ?_
  rintro e w1 ⟨rfl, rfl⟩
  cases vt
  · have hr := HRES.out
    rw [rf_tid HVT.out] at hr
    have HR := Lib.hid hr; clear hr
    go_wp2_with fail
    go_ret
    exact ⟨by rw [← HR.out]; rfl, keep_alloc _ _⟩
  · have hkk : k = 1 ∨ k = 2 ∨ k = 3 ∨ k = 4 ∨ k = 5 ∨ k = 6 ∨ k = 7 ∨ k = 8 ∨ k = 9 ∨ ¬ (1 ≤ k ∧ k ≤ 9) := by omega
    rcases hkk with rfl | rfl | rfl | rfl | rfl | rfl | rfl | rfl | rfl | hkk
    · by_cases hi : i = 0
      · subst hi
        cases y
        · by_cases hus : us.length = 0
          · obtain rfl : us = [] := List.eq_nil_of_length_eq_zero hus
            clear hus
            simp only [List.length_nil] at hcp5 ⊢
            by_cases hps : ps.length = 0
            · obtain rfl : ps = [] := List.eq_nil_of_length_eq_zero hps
              clear hps
              simp only [List.length_nil] at hcp4 ⊢
              have hr := HRES.out
              rw [recB_eq 1 t _ _ _ _ (by omega) HVT.out] at hr
              have hr2 : true = res := by rw [← hr]; rfl
              have HR := Lib.hid hr2; clear hr hr2
              go_wp2_with fail
              go_ret
              exact ⟨by rw [← HR.out]; rfl, keep_alloc _ _⟩
            · have hps2 : (0 : Int) < ps.length := by omega
              have hr := HRES.out
              rw [rf_parts (by decide) hps] at hr
              have HR := Lib.hid hr; clear hr
              go_wp2_with fail
              all_goals
                go_ret
                exact ⟨by rw [← HR.out]; rfl, keep_alloc _ _⟩
          · have hus2 : (0 : Int) < us.length := by omega
            have hr := HRES.out
            rw [rf_puts (by decide) hus] at hr
            have HR := Lib.hid hr; clear hr
            go_wp2_with fail
            all_goals
              go_ret
              exact ⟨by rw [← HR.out]; rfl, keep_alloc _ _⟩
        · have hr := HRES.out
          rw [rf_yes (by decide)] at hr
          have HR := Lib.hid hr; clear hr
          go_wp2_with fail
          all_goals
            go_ret
            exact ⟨by rw [← HR.out]; rfl, keep_alloc _ _⟩
      · have hi2 : (i == 0) = false := by simp; exact hi
        have hi3 : (i != 0) = true := by simp; exact hi
        have hr := HRES.out
        rw [rf_id (by decide) hi] at hr
        have HR := Lib.hid hr; clear hr
        go_wp2_with fail
        all_goals
          go_ret
          exact ⟨by rw [← HR.out]; rfl, keep_alloc _ _⟩
    · cases y
      · by_cases hus : us.length = 0
        · obtain rfl : us = [] := List.eq_nil_of_length_eq_zero hus
          clear hus
          simp only [List.length_nil] at hcp5 ⊢
          by_cases hps : ps.length = 0
          · obtain rfl : ps = [] := List.eq_nil_of_length_eq_zero hps
            clear hps
            simp only [List.length_nil] at hcp4 ⊢
            have hr := HRES.out
            rw [recB_eq 2 t _ _ _ _ (by omega) HVT.out] at hr
            have hr2 : tidB i = res := by rw [← hr]; show tidB i = (tidB i && true && true && true && true); simp
            have HR := Lib.hid hr2; clear hr hr2
            go_wp2_with fail
            refine (rtid_any i _ bi).mono ?_
            rintro e w1 ⟨rfl, rfl⟩
            go_wp2_with fail
            go_ret
            exact ⟨by rw [← HR.out]; rfl, keep_alloc _ _⟩
          · have hps2 : (0 : Int) < ps.length := by omega
            have hr := HRES.out
            rw [rf_parts (by decide) hps] at hr
            have HR := Lib.hid hr; clear hr
            go_wp2_with fail
            all_goals
              go_ret
              exact ⟨by rw [← HR.out]; rfl, keep_alloc _ _⟩
        · have hus2 : (0 : Int) < us.length := by omega
          have hr := HRES.out
          rw [rf_puts (by decide) hus] at hr
          have HR := Lib.hid hr; clear hr
          go_wp2_with fail
          all_goals
            go_ret
            exact ⟨by rw [← HR.out]; rfl, keep_alloc _ _⟩
      · have hr := HRES.out
        rw [rf_yes (by decide)] at hr
        have HR := Lib.hid hr; clear hr
        go_wp2_with fail
        all_goals
          go_ret
          exact ⟨by rw [← HR.out]; rfl, keep_alloc _ _⟩
    · by_cases hi : i = 0
      · subst hi
        cases y
        · by_cases hus : us.length = 0
          · obtain rfl : us = [] := List.eq_nil_of_length_eq_zero hus
            clear hus
            simp only [List.length_nil] at hcp5 ⊢
            by_cases hps : ps.length = 0
            · obtain rfl : ps = [] := List.eq_nil_of_length_eq_zero hps
              clear hps
              simp only [List.length_nil] at hcp4 ⊢
              have hr := HRES.out
              rw [recB_eq 3 t _ _ _ _ (by omega) HVT.out] at hr
              have hr2 : true = res := by rw [← hr]; rfl
              have HR := Lib.hid hr2; clear hr hr2
              go_wp2_with fail
              go_ret
              exact ⟨by rw [← HR.out]; rfl, keep_alloc _ _⟩
            · have hps2 : (0 : Int) < ps.length := by omega
              have hr := HRES.out
              rw [rf_parts (by decide) hps] at hr
              have HR := Lib.hid hr; clear hr
              go_wp2_with fail
              all_goals
                go_ret
                exact ⟨by rw [← HR.out]; rfl, keep_alloc _ _⟩
          · have hus2 : (0 : Int) < us.length := by omega
            have hr := HRES.out
            rw [rf_puts (by decide) hus] at hr
            have HR := Lib.hid hr; clear hr
            go_wp2_with fail
            all_goals
              go_ret
              exact ⟨by rw [← HR.out]; rfl, keep_alloc _ _⟩
        · have hr := HRES.out
          rw [rf_yes (by decide)] at hr
          have HR := Lib.hid hr; clear hr
          go_wp2_with fail
          all_goals
            go_ret
            exact ⟨by rw [← HR.out]; rfl, keep_alloc _ _⟩
      · have hi2 : (i == 0) = false := by simp; exact hi
        have hi3 : (i != 0) = true := by simp; exact hi
        have hr := HRES.out
        rw [rf_id (by decide) hi] at hr
        have HR := Lib.hid hr; clear hr
        go_wp2_with fail
        all_goals
          go_ret
          exact ⟨by rw [← HR.out]; rfl, keep_alloc _ _⟩
    · by_cases hi : i = 0
      · subst hi
        cases y
        · by_cases hps : ps.length = 0
          · obtain rfl : ps = [] := List.eq_nil_of_length_eq_zero hps
            clear hps
            simp only [List.length_nil] at hcp4 ⊢
            have hr := HRES.out
            rw [recB_eq 4 t _ _ _ _ (by omega) HVT.out] at hr
            have hr2 : (decide (us.length ≤ 10) && putsB us) = res := by rw [← hr]; show _ = (true && true && true && decide (us.length ≤ 10) && putsB us); simp
            have HR := Lib.hid hr2; clear hr hr2
            go_wp2_with fail
            refine (rputs_any a5 c5 us _ (H.out.puts.keep (keep_alloc _ _) (fun _ _ f => f))).mono ?_
            rintro e w1 ⟨rfl, hk⟩
            rw [HR.out]
            have HK := Lib.hid hk; clear hk
            go_wp2_with fail
            go_ret
            exact ⟨rfl, (keep_alloc _ _).trans' HK.out⟩
          · have hps2 : (0 : Int) < ps.length := by omega
            have hr := HRES.out
            rw [rf_parts (by decide) hps] at hr
            have HR := Lib.hid hr; clear hr
            go_wp2_with fail
            all_goals
              go_ret
              exact ⟨by rw [← HR.out]; rfl, keep_alloc _ _⟩
        · have hr := HRES.out
          rw [rf_yes (by decide)] at hr
          have HR := Lib.hid hr; clear hr
          go_wp2_with fail
          all_goals
            go_ret
            exact ⟨by rw [← HR.out]; rfl, keep_alloc _ _⟩
      · have hi2 : (i == 0) = false := by simp; exact hi
        have hi3 : (i != 0) = true := by simp; exact hi
        have hr := HRES.out
        rw [rf_id (by decide) hi] at hr
        have HR := Lib.hid hr; clear hr
        go_wp2_with fail
        all_goals
          go_ret
          exact ⟨by rw [← HR.out]; rfl, keep_alloc _ _⟩
    · by_cases hi : i = 0
      · subst hi
        by_cases hus : us.length = 0
        · obtain rfl : us = [] := List.eq_nil_of_length_eq_zero hus
          clear hus
          simp only [List.length_nil] at hcp5 ⊢
          by_cases hps : ps.length = 0
          · obtain rfl : ps = [] := List.eq_nil_of_length_eq_zero hps
            clear hps
            simp only [List.length_nil] at hcp4 ⊢
            have hr := HRES.out
            rw [recB_eq 5 t _ _ _ _ (by omega) HVT.out] at hr
            have hr2 : true = res := by rw [← hr]; cases y <;> rfl
            have HR := Lib.hid hr2; clear hr hr2
            go_wp2_with fail
            go_ret
            exact ⟨by rw [← HR.out]; rfl, keep_alloc _ _⟩
          · have hps2 : (0 : Int) < ps.length := by omega
            have hr := HRES.out
            rw [rf_parts (by decide) hps] at hr
            have HR := Lib.hid hr; clear hr
            go_wp2_with fail
            all_goals
              go_ret
              exact ⟨by rw [← HR.out]; rfl, keep_alloc _ _⟩
        · have hus2 : (0 : Int) < us.length := by omega
          have hr := HRES.out
          rw [rf_puts (by decide) hus] at hr
          have HR := Lib.hid hr; clear hr
          go_wp2_with fail
          all_goals
            go_ret
            exact ⟨by rw [← HR.out]; rfl, keep_alloc _ _⟩
      · have hi2 : (i == 0) = false := by simp; exact hi
        have hi3 : (i != 0) = true := by simp; exact hi
        have hr := HRES.out
        rw [rf_id (by decide) hi] at hr
        have HR := Lib.hid hr; clear hr
        go_wp2_with fail
        all_goals
          go_ret
          exact ⟨by rw [← HR.out]; rfl, keep_alloc _ _⟩
    · by_cases hi : i = 0
      · subst hi
        cases y
        · by_cases hus : us.length = 0
          · obtain rfl : us = [] := List.eq_nil_of_length_eq_zero hus
            clear hus
            simp only [List.length_nil] at hcp5 ⊢
            have hr := HRES.out
            rw [recB_eq 6 t _ _ _ _ (by omega) HVT.out] at hr
            by_cases hp : 1 ≤ ps.length
            · have hr2 : risingB ps 0 7 = res := by rw [← hr]; show _ = (true && true && risingB ps 1 7 && true && true); rw [rising_one, decide_eq_true hp]; simp
              have hp2 : (0 : Int) < ps.length := by omega
              have HR := Lib.hid hr2; clear hr hr2 hp
              go_wp2_with fail
              refine (rrising_any a4 c4 ps _ (H.out.parts.keep (keep_alloc _ _) (fun _ _ f => f))).mono ?_
              rintro e w1 ⟨rfl, hk⟩
              rw [HR.out]
              have HK := Lib.hid hk; clear hk
              go_wp2_with fail
              go_ret
              exact ⟨rfl, (keep_alloc _ _).trans' HK.out⟩
            · have hp2 : ps.length = 0 := by omega
              have hr2 : false = res := by rw [← hr]; show _ = (true && true && risingB ps 1 7 && true && true); rw [rising_one, decide_eq_false hp]; rfl
              have HR := Lib.hid hr2; clear hr hr2 hp
              go_wp2_with fail
              go_ret
              exact ⟨by rw [← HR.out]; rfl, keep_alloc _ _⟩
          · have hus2 : (0 : Int) < us.length := by omega
            have hr := HRES.out
            rw [rf_puts (by decide) hus] at hr
            have HR := Lib.hid hr; clear hr
            go_wp2_with fail
            all_goals
              go_ret
              exact ⟨by rw [← HR.out]; rfl, keep_alloc _ _⟩
        · have hr := HRES.out
          rw [rf_yes (by decide)] at hr
          have HR := Lib.hid hr; clear hr
          go_wp2_with fail
          all_goals
            go_ret
            exact ⟨by rw [← HR.out]; rfl, keep_alloc _ _⟩
      · have hi2 : (i == 0) = false := by simp; exact hi
        have hi3 : (i != 0) = true := by simp; exact hi
        have hr := HRES.out
        rw [rf_id (by decide) hi] at hr
        have HR := Lib.hid hr; clear hr
        go_wp2_with fail
        all_goals
          go_ret
          exact ⟨by rw [← HR.out]; rfl, keep_alloc _ _⟩
    · by_cases hi : i = 0
      · subst hi
        cases y
        · by_cases hps : ps.length = 0
          · obtain rfl : ps = [] := List.eq_nil_of_length_eq_zero hps
            clear hps
            simp only [List.length_nil] at hcp4 ⊢
            have hr := HRES.out
            rw [recB_eq 7 t _ _ _ _ (by omega) HVT.out] at hr
            have hr2 : (decide (us.length ≤ 10) && putsB us) = res := by rw [← hr]; show _ = (true && true && true && decide (us.length ≤ 10) && putsB us); simp
            have HR := Lib.hid hr2; clear hr hr2
            go_wp2_with fail
            refine (rputs_any a5 c5 us _ (H.out.puts.keep (keep_alloc _ _) (fun _ _ f => f))).mono ?_
            rintro e w1 ⟨rfl, hk⟩
            rw [HR.out]
            have HK := Lib.hid hk; clear hk
            go_wp2_with fail
            go_ret
            exact ⟨rfl, (keep_alloc _ _).trans' HK.out⟩
          · have hps2 : (0 : Int) < ps.length := by omega
            have hr := HRES.out
            rw [rf_parts (by decide) hps] at hr
            have HR := Lib.hid hr; clear hr
            go_wp2_with fail
            all_goals
              go_ret
              exact ⟨by rw [← HR.out]; rfl, keep_alloc _ _⟩
        · have hr := HRES.out
          rw [rf_yes (by decide)] at hr
          have HR := Lib.hid hr; clear hr
          go_wp2_with fail
          all_goals
            go_ret
            exact ⟨by rw [← HR.out]; rfl, keep_alloc _ _⟩
      · have hi2 : (i == 0) = false := by simp; exact hi
        have hi3 : (i != 0) = true := by simp; exact hi
        have hr := HRES.out
        rw [rf_id (by decide) hi] at hr
        have HR := Lib.hid hr; clear hr
        go_wp2_with fail
        all_goals
          go_ret
          exact ⟨by rw [← HR.out]; rfl, keep_alloc _ _⟩
    · by_cases hi : i = 0
      · subst hi
        cases y
        · by_cases hus : us.length = 0
          · obtain rfl : us = [] := List.eq_nil_of_length_eq_zero hus
            clear hus
            simp only [List.length_nil] at hcp5 ⊢
            have hr := HRES.out
            rw [recB_eq 8 t _ _ _ _ (by omega) HVT.out] at hr
            have hr2 : risingB ps 0 7 = res := by rw [← hr]; show _ = (true && true && risingB ps 0 7 && true && true); simp
            have HR := Lib.hid hr2; clear hr hr2
            go_wp2_with fail
            refine (rrising_any a4 c4 ps _ (H.out.parts.keep (keep_alloc _ _) (fun _ _ f => f))).mono ?_
            rintro e w1 ⟨rfl, hk⟩
            rw [HR.out]
            have HK := Lib.hid hk; clear hk
            go_wp2_with fail
            go_ret
            exact ⟨rfl, (keep_alloc _ _).trans' HK.out⟩
          · have hus2 : (0 : Int) < us.length := by omega
            have hr := HRES.out
            rw [rf_puts (by decide) hus] at hr
            have HR := Lib.hid hr; clear hr
            go_wp2_with fail
            all_goals
              go_ret
              exact ⟨by rw [← HR.out]; rfl, keep_alloc _ _⟩
        · have hr := HRES.out
          rw [rf_yes (by decide)] at hr
          have HR := Lib.hid hr; clear hr
          go_wp2_with fail
          all_goals
            go_ret
            exact ⟨by rw [← HR.out]; rfl, keep_alloc _ _⟩
      · have hi2 : (i == 0) = false := by simp; exact hi
        have hi3 : (i != 0) = true := by simp; exact hi
        have hr := HRES.out
        rw [rf_id (by decide) hi] at hr
        have HR := Lib.hid hr; clear hr
        go_wp2_with fail
        all_goals
          go_ret
          exact ⟨by rw [← HR.out]; rfl, keep_alloc _ _⟩
    · by_cases hi : i = 0
      · subst hi
        cases y
        · by_cases hus : us.length = 0
          · obtain rfl : us = [] := List.eq_nil_of_length_eq_zero hus
            clear hus
            simp only [List.length_nil] at hcp5 ⊢
            have hr := HRES.out
            rw [recB_eq 9 t _ _ _ _ (by omega) HVT.out] at hr
            by_cases hp : ps.length = 1
            · have hr2 : brokerB (ps.getD 0 0) = res := by rw [← hr]; show _ = (true && true && risingB ps 1 1 && true && true); rw [rising_single ps hp]; simp
              have hb := H.out.parts.2.2.2 0 (by simp only; omega)
              obtain ⟨g, off, rfl, c0⟩ := hb
              have hin := H.out.parts.2.2.1 _ (List.getElem_mem (show 0 < ps.length by omega))
              have e0 : ps.getD 0 0 = ps[0]'(by omega) := getD_of_lt ps 0 0 (by omega)
              rw [e0] at hr2
              simp only [Nat.add_zero] at c0
              obtain ⟨x, hx⟩ : ∃ x, ps[0]'(by omega) = x := ⟨_, rfl⟩
              rw [hx] at hr2 hin
              have cB : (w.alloc (.cells #[.int .i64 9, .int .i64 t, .int .i64 0, .bool false, .slice (some ⟨g, off, none⟩) 1 c4, .slice a5 0 c5] 38)).cell? ⟨g, off, none⟩ = some (.int .i64 x) := by
                rw [← hx]; exact (keep_alloc _ _).cell' c0 (fun f => f)
              unfold InI64 at hin
              rw [hp] at hcp4 ⊢
              have HR := Lib.hid hr2; clear hr hr2 e0 hx c0 hp
              go_wp2_with fail
              refine (rbroker_any x _).mono ?_
              rintro e w1 ⟨rfl, rfl⟩
              go_wp2_with fail
              go_ret
              exact ⟨by rw [← HR.out]; rfl, keep_alloc _ _⟩
            · have hr2 : false = res := by rw [← hr]; show _ = (true && true && risingB ps 1 1 && true && true); rw [rising_not1 ps hp]; rfl
              have hp2 : ((ps.length : Int) == 1) = false := by simp; omega
              have HR := Lib.hid hr2; clear hr hr2 hp
              go_wp2_with fail
              go_ret
              exact ⟨by rw [← HR.out]; rfl, keep_alloc _ _⟩
          · have hus2 : (0 : Int) < us.length := by omega
            have hr := HRES.out
            rw [rf_puts (by decide) hus] at hr
            have HR := Lib.hid hr; clear hr
            go_wp2_with fail
            all_goals
              go_ret
              exact ⟨by rw [← HR.out]; rfl, keep_alloc _ _⟩
        · have hr := HRES.out
          rw [rf_yes (by decide)] at hr
          have HR := Lib.hid hr; clear hr
          go_wp2_with fail
          all_goals
            go_ret
            exact ⟨by rw [← HR.out]; rfl, keep_alloc _ _⟩
      · have hi2 : (i == 0) = false := by simp; exact hi
        have hi3 : (i != 0) = true := by simp; exact hi
        have hr := HRES.out
        rw [rf_id (by decide) hi] at hr
        have HR := Lib.hid hr; clear hr
        go_wp2_with fail
        all_goals
          go_ret
          exact ⟨by rw [← HR.out]; rfl, keep_alloc _ _⟩
    · have HKK := Lib.hid hkk
      have k2 : ¬ k = 2 := by omega
      have k5 : ¬ k = 5 := by omega
      have k4 : ¬ k = 4 := by omega
      have k7 : ¬ k = 7 := by omega
      have k6 : ¬ k = 6 := by omega
      have k8 : ¬ k = 8 := by omega
      have k9 : ¬ k = 9 := by omega
      have k1 : ¬ k = 1 := by omega
      have k3 : ¬ k = 3 := by omega
      have f2 : (k == 2) = false := by simp; exact k2
      have f5 : (k == 5) = false := by simp; exact k5
      have f4 : (k == 4) = false := by simp; exact k4
      have f7 : (k == 7) = false := by simp; exact k7
      have f6 : (k == 6) = false := by simp; exact k6
      have f8 : (k == 8) = false := by simp; exact k8
      have f9 : (k == 9) = false := by simp; exact k9
      have f1 : (k == 1) = false := by simp; exact k1
      have f3 : (k == 3) = false := by simp; exact k3
      clear hkk
      by_cases hi : i = 0
      · subst hi
        cases y
        · by_cases hus : us.length = 0
          · obtain rfl : us = [] := List.eq_nil_of_length_eq_zero hus
            clear hus
            simp only [List.length_nil] at hcp5 ⊢
            by_cases hps : ps.length = 0
            · obtain rfl : ps = [] := List.eq_nil_of_length_eq_zero hps
              clear hps
              simp only [List.length_nil] at hcp4 ⊢
              have hr := HRES.out
              rw [rf_kind HKK.out] at hr
              have HR := Lib.hid hr; clear hr
              go_wp2_with fail
              all_goals
                go_ret
                exact ⟨by rw [← HR.out]; rfl, keep_alloc _ _⟩
            · have hps2 : (0 : Int) < ps.length := by omega
              have hr := HRES.out
              rw [rf_kind HKK.out] at hr
              have HR := Lib.hid hr; clear hr
              go_wp2_with fail
              all_goals
                go_ret
                exact ⟨by rw [← HR.out]; rfl, keep_alloc _ _⟩
          · have hus2 : (0 : Int) < us.length := by omega
            have hr := HRES.out
            rw [rf_kind HKK.out] at hr
            have HR := Lib.hid hr; clear hr
            go_wp2_with fail
            all_goals
              go_ret
              exact ⟨by rw [← HR.out]; rfl, keep_alloc _ _⟩
        · have hr := HRES.out
          rw [rf_kind HKK.out] at hr
          have HR := Lib.hid hr; clear hr
          go_wp2_with fail
          all_goals
            go_ret
            exact ⟨by rw [← HR.out]; rfl, keep_alloc _ _⟩
      · have hi2 : (i == 0) = false := by simp; exact hi
        have hi3 : (i != 0) = true := by simp; exact hi
        have hr := HRES.out
        rw [rf_kind HKK.out] at hr
        have HR := Lib.hid hr; clear hr
        go_wp2_with fail
        all_goals
          go_ret
          exact ⟨by rw [← HR.out]; rfl, keep_alloc _ _⟩
end Go.Proofs.Ytgbogbjifpijkaa
