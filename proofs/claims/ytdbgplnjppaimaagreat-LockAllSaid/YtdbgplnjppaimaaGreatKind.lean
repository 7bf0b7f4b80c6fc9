/- Names, bodies, brokers, numbers: what each function of kind, and of the document, says. -/
import Derived.Test.YtdbgplnjppaimaaGreatBegun
import Derived.Test.YtdbgplnjppaimaaGreatLawBase
import Derived.Test.YtdbgplnjppaimaaGreatRecPlain
open Go Go.RowKit
namespace Go.Proofs.YtdbgplnjppaimaaGreat

theorem str_at (s : ByteArray) (i : Nat) (h : i < s.size) : s.data.toList.getD i 0 = s[i]'h := by
  rw [List.getD_eq_getElem?_getD, List.getElem?_eq_getElem (by simpa [ba_length] using h), Option.getD_some]
  simp
  rfl

set_option maxHeartbeats 400000 in
theorem kqueue_any (s : ByteArray) (w : World) (hs : s.size ≤ maxLen) :
    Calls Tryz.prog 65 #[.string s] w fun e w' => e = .returned (.bool (queueB s)) ∧ w' = w := by
  unfold maxLen at hs
  have hall : allN s.size (fun i => lowB (s.data.toList.getD i 0)) = true → queueB s = (decide (1 ≤ s.size) && decide (s.size ≤ 8)) := fun h => by rw [queueB, h, Bool.true_and]
  have hbad : allN s.size (fun i => lowB (s.data.toList.getD i 0)) = false → queueB s = false := fun h => by rw [queueB, h, Bool.false_and]
  have HA := Lib.hid hall; have HB := Lib.hid hbad
  clear hall hbad
  go_enter Tryz.func65, Tryz.ntmps65
  go_wp2_with fail
  go_loopw [6] (fun iv wr => ∃ k : Nat, k ≤ s.size ∧ iv = .int .i64 k ∧ allN k (fun i => lowB (s.data.toList.getD i 0)) = true ∧ wr = w) (fun iv _ => s.size - (intOf iv).toNat)
  case atStart => exact ⟨0, Nat.zero_le _, rfl, rfl, rfl⟩
  case round =>
    obtain ⟨k, hk, rfl, hok, rfl⟩ := hrel
    have HK := Lib.hid hok; clear hok
    by_cases hlt : k < s.size
    · obtain ⟨x, hxx⟩ : ∃ x, s[k]'hlt = x := ⟨_, rfl⟩
      have hxn := x.toNat_lt
      have HX : Hid (s.data.toList.getD k 0 = x) := by rw [← hxx]; exact Lib.hid (str_at s k hlt)
      by_cases hb : 97 ≤ x.toNat ∧ x.toNat ≤ 122
      · have h1 : (97 : Int) ≤ x.toNat := by omega
        have h2 : (x.toNat : Int) ≤ 122 := by omega
        have HB2 := Lib.hid hb; clear hb
        go_wp2_with fail
        go_roundw
        case rel =>
          refine ⟨k + 1, by omega, by go_num, ?_, trivial⟩
          rw [allN_succ, HK.out, HX.out]
          simp [lowB, HB2.out.1, HB2.out.2]
        case measure => simp [intOf]; omega
      · have hq : queueB s = false := HB.out (allN_false hlt (by rw [HX.out]; simp [lowB]; omega))
        by_cases h1 : (x.toNat : Int) < 97
        · clear hb
          go_wp2_with fail
          go_ret
          exact ⟨by rw [hq]; rfl, rfl⟩
        · have h2 : (122 : Int) < x.toNat := by omega
          have h3 : (97 : Int) ≤ x.toNat := by omega
          clear hb h1
          go_wp2_with fail
          go_ret
          exact ⟨by rw [hq]; rfl, rfl⟩
    · obtain rfl : k = s.size := by omega
      obtain ⟨r, hr⟩ : ∃ r, queueB s = r := ⟨_, rfl⟩
      have hr2 := hr
      rw [HA.out HK.out] at hr2
      have HR := Lib.hid hr; have HR2 := Lib.hid hr2
      clear hr hr2
      by_cases h1 : 1 ≤ s.size
      · have h2 : (0 : Int) < s.size := by omega
        go_wp2_with fail
        go_ret
        refine ⟨?_, rfl⟩
        rw [HR.out, ← HR2.out, decide_eq_true h1, Bool.true_and]
        have e : (decide ((s.size : Int) ≤ 8)) = decide (s.size ≤ 8) := by rw [decide_eq_decide]; omega
        rw [← e]
        rfl
      · have h2 : s.size = 0 := by omega
        go_wp2_with fail
        go_ret
        refine ⟨?_, rfl⟩
        rw [HR.out, ← HR2.out, decide_eq_false h1, Bool.false_and]
        rfl

set_option maxHeartbeats 400000 in
theorem kbody_any (s : ByteArray) (w : World) :
    Calls Tryz.prog 66 #[.string s] w fun e w' => e = .returned (.bool (bodyB s)) ∧ w' = w := by
  have e : bodyB s = decide ((s.size : Int) ≤ 60) := by rw [bodyB, decide_eq_decide]; omega
  rw [e]
  clear e
  go_enter Tryz.func66, Tryz.ntmps66
  go_wp2_with fail
  go_ret
  exact ⟨rfl, rfl⟩

set_option maxHeartbeats 400000 in
theorem kbroker_any (n : Int) (w : World) :
    Calls Tryz.prog 50 #[.int .i64 n] w fun e w' => e = .returned (.bool (brokerB n)) ∧ w' = w := by
  by_cases h : 1 ≤ n
  · have e : brokerB n = decide (n ≤ 8) := by simp [brokerB, h]
    have h0 : 0 < n := by omega
    rw [e]
    clear e
    go_enter Tryz.func50, Tryz.ntmps50
    go_wp2_with fail
    go_ret
    exact ⟨rfl, rfl⟩
  · have e : brokerB n = false := by simp [brokerB]; omega
    have h0 : n ≤ 0 := by omega
    have h1 : n < 1 := by omega
    rw [e]
    clear e h
    go_enter Tryz.func50, Tryz.ntmps50
    go_wp2_with fail
    go_ret
    exact ⟨rfl, rfl⟩

set_option maxHeartbeats 400000 in
theorem rbroker_any (n : Int) (w : World) :
    Calls Tryz.prog 45 #[.int .i64 n] w fun e w' => e = .returned (.bool (brokerB n)) ∧ w' = w := by
  by_cases h : 1 ≤ n
  · have e : brokerB n = decide (n ≤ 8) := by simp [brokerB, h]
    have h0 : 0 < n := by omega
    rw [e]
    clear e
    go_enter Tryz.func45, Tryz.ntmps45
    go_wp2_with fail
    go_ret
    exact ⟨rfl, rfl⟩
  · have e : brokerB n = false := by simp [brokerB]; omega
    have h0 : n ≤ 0 := by omega
    have h1 : n < 1 := by omega
    rw [e]
    clear e h
    go_enter Tryz.func45, Tryz.ntmps45
    go_wp2_with fail
    go_ret
    exact ⟨rfl, rfl⟩

theorem tdiv_base (t : Int) (h : 4294967296 ≤ t) : t.tdiv 4294967296 = t / 4294967296 := Int.tdiv_eq_ediv_of_nonneg (by omega)
theorem tmod_base (t : Int) (h : 4294967296 ≤ t) : t.tmod 4294967296 = t % 4294967296 := Int.tmod_eq_emod_of_nonneg (by omega)
theorem tdiv_low (t : Int) (h : t < 4294967296) : t.tdiv 4294967296 < 1 := by
  by_cases h0 : 0 ≤ t
  · rw [Int.tdiv_eq_ediv_of_nonneg h0]; omega
  · have : t.tdiv 4294967296 ≤ 0 := by
      have h1 : t = -(-t) := by omega
      rw [h1, Int.neg_tdiv, Int.tdiv_eq_ediv_of_nonneg (by omega)]
      omega
    omega

set_option maxHeartbeats 400000 in
theorem khome_any (t : Int) (w : World) (ht : -9223372036854775808 ≤ t ∧ t ≤ 9223372036854775807) :
    Calls Tryz.prog 68 #[.int .i64 t] w fun e w' => e = .returned (.int .i64 (homeOf t)) ∧ w' = w := by
  by_cases h0 : t < 4294967296
  · have e : homeOf t = 0 := by unfold homeOf; rw [if_neg (by omega)]
    have hd := tdiv_low t h0
    have hdb : -9223372036854775808 ≤ t.tdiv 4294967296 ∧ t.tdiv 4294967296 ≤ 9223372036854775807 := by
      refine ⟨?_, by omega⟩
      by_cases h1 : 0 ≤ t
      · rw [Int.tdiv_eq_ediv_of_nonneg h1]; omega
      · have h2 : t = -(-t) := by omega
        rw [h2, Int.neg_tdiv, Int.tdiv_eq_ediv_of_nonneg (by omega)]
        omega
    rw [e]
    clear e
    go_enter Tryz.func68, Tryz.ntmps68
    go_wp2_with fail
    go_ret
    exact ⟨rfl, rfl⟩
  · have hd := tdiv_base t (by omega)
    have hm := tmod_base t (by omega)
    obtain ⟨q, hq⟩ : ∃ q, t / 4294967296 = q := ⟨_, rfl⟩
    obtain ⟨r, hr⟩ : ∃ r, t % 4294967296 = r := ⟨_, rfl⟩
    have hq1 : 1 ≤ q ∧ q < 4294967296 := by omega
    have hh : homeOf t = if 1 ≤ q ∧ q ≤ 8 ∧ r ≠ 0 then q else 0 := by unfold homeOf; rw [hq, hr]
    rw [hq] at hd
    rw [hr] at hm
    rw [hh]
    clear hh hq hr h0
    by_cases h8 : 8 < q
    · rw [if_neg (by omega)]
      go_enter Tryz.func68, Tryz.ntmps68
      go_wp2_with fail
      go_ret
      exact ⟨rfl, rfl⟩
    · have h9 : q ≤ 8 := by omega
      clear h8
      by_cases h0 : r = 0
      · subst h0
        rw [if_neg (by omega)]
        go_enter Tryz.func68, Tryz.ntmps68
        go_wp2_with fail
        go_ret
        exact ⟨rfl, rfl⟩
      · rw [if_pos ⟨hq1.1, h9, h0⟩]
        have h0b : (r == 0) = false := by simp; exact h0
        clear h0
        go_enter Tryz.func68, Tryz.ntmps68
        go_wp2_with fail
        go_ret
        exact ⟨rfl, rfl⟩

set_option maxHeartbeats 400000 in
theorem rhome_any (t : Int) (w : World) (ht : -9223372036854775808 ≤ t ∧ t ≤ 9223372036854775807) :
    Calls Tryz.prog 23 #[.int .i64 t] w fun e w' => e = .returned (.int .i64 (homeOf t)) ∧ w' = w := by
  obtain ⟨hh, hhd⟩ : ∃ hh, homeOf t = hh := ⟨_, rfl⟩
  have HH := Lib.hid hhd
  clear hhd
  go_enter Tryz.func23, Tryz.ntmps23
  go_wp2_with fail
  go_loopw [3] (fun iv wr => ∃ k : Nat, 1 ≤ k ∧ k ≤ 9 ∧ iv = .int .i64 k ∧ (homeOf t < k → homeOf t = 0) ∧ wr = w) (fun iv _ => 9 - (intOf iv).toNat)
  case atStart => exact ⟨1, by omega, by omega, rfl, fun h => by have := homeOf_le t; omega, rfl⟩
  case round =>
    obtain ⟨k, hk1, hk9, rfl, hlow, rfl⟩ := hrel
    have HL := Lib.hid hlow; clear hlow
    by_cases h8 : (k : Int) ≤ 8
    · by_cases hin : (k : Int) * 4294967296 < t ∧ t < (k : Int) * 4294967296 + 4294967296
      · have e : homeOf t = k := by unfold homeOf; rw [if_pos (by omega)]; omega
        obtain ⟨h1, h2⟩ := hin
        have HE := Lib.hid e; clear e
        go_wp2_with fail
        go_ret
        exact ⟨by rw [HE.out]; rfl, rfl⟩
      · have hne : homeOf t ≠ k := by unfold homeOf; split <;> omega
        have HN := Lib.hid hne; clear hne
        by_cases h1 : (k : Int) * 4294967296 < t
        · have h2 : (k : Int) * 4294967296 + 4294967296 ≤ t := by omega
          clear hin
          go_wp2_with fail
          go_roundw
          case rel => exact ⟨k + 1, by omega, by omega, by go_num, fun h => by have := HN.out; have := HL.out; omega, trivial⟩
          case measure => simp [intOf]; omega
        · have h2 : t ≤ (k : Int) * 4294967296 := by omega
          clear hin h1
          go_wp2_with fail
          go_roundw
          case rel => exact ⟨k + 1, by omega, by omega, by go_num, fun h => by have := HN.out; have := HL.out; omega, trivial⟩
          case measure => simp [intOf]; omega
    · obtain rfl : k = 9 := by omega
      have e : homeOf t = 0 := HL.out (by have := homeOf_le t; omega)
      clear h8
      go_wp2_with fail
      go_ret
      exact ⟨by rw [e]; rfl, rfl⟩

set_option maxHeartbeats 400000 in
theorem ktid_any (t : Int) (w : World) (ht : -9223372036854775808 ≤ t ∧ t ≤ 9223372036854775807) :
    Calls Tryz.prog 67 #[.int .i64 t] w fun e w' => e = .returned (.bool (tidB t)) ∧ w' = w := by
  rw [tidB]
  go_enter Tryz.func67, Tryz.ntmps67
  go_wp2_with fail
  refine (khome_any t w ht).mono ?_
  rintro e w1 ⟨rfl, rfl⟩
  go_wp2_with fail
  go_ret
  exact ⟨rfl, rfl⟩

set_option maxHeartbeats 400000 in
theorem kmake_any (b n : Int) (w : World) (hb : -9223372036854775808 ≤ b ∧ b ≤ 9223372036854775807) (hn : -9223372036854775808 ≤ n ∧ n ≤ 9223372036854775807) :
    Calls Tryz.prog 41 #[.int .i64 b, .int .i64 n] w fun e w' => e = .returned (.int .i64 (makeOf b n)) ∧ w' = w := by
  by_cases hok : brokerB b = true
  · have hbb := brokerB_iff.1 hok
    by_cases h1 : n < 1
    · have e : makeOf b n = 0 := by unfold makeOf; rw [if_neg (by omega)]
      rw [e]
      clear e
      go_enter Tryz.func41, Tryz.ntmps41
      go_wp2_with fail
      refine (kbroker_any b w).mono ?_
      rintro e w1 ⟨rfl, rfl⟩
      rw [hok]
      go_wp2_with fail
      go_ret
      exact ⟨rfl, rfl⟩
    · have h2 : 1 ≤ n := by omega
      clear h1
      by_cases h3 : 4294967296 ≤ n
      · have e : makeOf b n = 0 := by unfold makeOf; rw [if_neg (by omega)]
        rw [e]
        clear e
        go_enter Tryz.func41, Tryz.ntmps41
        go_wp2_with fail
        refine (kbroker_any b w).mono ?_
        rintro e w1 ⟨rfl, rfl⟩
        rw [hok]
        go_wp2_with fail
        go_ret
        exact ⟨rfl, rfl⟩
      · have h4 : n < 4294967296 := by omega
        clear h3
        have e : makeOf b n = b * 4294967296 + n := by unfold makeOf; rw [if_pos ⟨hok, by omega, h4⟩]
        rw [e]
        clear e
        go_enter Tryz.func41, Tryz.ntmps41
        go_wp2_with fail
        refine (kbroker_any b w).mono ?_
        rintro e w1 ⟨rfl, rfl⟩
        rw [hok]
        go_wp2_with fail
        go_ret
        exact ⟨rfl, rfl⟩
  · have hok2 : brokerB b = false := by simpa using hok
    have e : makeOf b n = 0 := by unfold makeOf; rw [if_neg (fun h => hok h.1)]
    rw [e]
    clear e hok
    go_enter Tryz.func41, Tryz.ntmps41
    go_wp2_with fail
    refine (kbroker_any b w).mono ?_
    rintro e w1 ⟨rfl, rfl⟩
    rw [hok2]
    go_wp2_with fail
    go_ret
    exact ⟨rfl, rfl⟩

set_option maxHeartbeats 400000 in
theorem rmake_any (b n : Int) (w : World) (hb : -9223372036854775808 ≤ b ∧ b ≤ 9223372036854775807) (hn : -9223372036854775808 ≤ n ∧ n ≤ 9223372036854775807) :
    Calls Tryz.prog 21 #[.int .i64 b, .int .i64 n] w fun e w' => e = .returned (.int .i64 (makeOf b n)) ∧ w' = w := by
  by_cases hok : brokerB b = true
  · have hbb := brokerB_iff.1 hok
    by_cases h1 : n < 1
    · have e : makeOf b n = 0 := by unfold makeOf; rw [if_neg (by omega)]
      rw [e]
      clear e
      go_enter Tryz.func21, Tryz.ntmps21
      go_wp2_with fail
      refine (rbroker_any b w).mono ?_
      rintro e w1 ⟨rfl, rfl⟩
      rw [hok]
      go_wp2_with fail
      go_ret
      exact ⟨rfl, rfl⟩
    · have h2 : 1 ≤ n := by omega
      clear h1
      by_cases h3 : 4294967296 ≤ n
      · have e : makeOf b n = 0 := by unfold makeOf; rw [if_neg (by omega)]
        rw [e]
        clear e
        go_enter Tryz.func21, Tryz.ntmps21
        go_wp2_with fail
        refine (rbroker_any b w).mono ?_
        rintro e w1 ⟨rfl, rfl⟩
        rw [hok]
        go_wp2_with fail
        go_ret
        exact ⟨rfl, rfl⟩
      · have h4 : n < 4294967296 := by omega
        clear h3
        have e : makeOf b n = b * 4294967296 + n := by unfold makeOf; rw [if_pos ⟨hok, by omega, h4⟩]
        rw [e]
        clear e
        go_enter Tryz.func21, Tryz.ntmps21
        go_wp2_with fail
        refine (rbroker_any b w).mono ?_
        rintro e w1 ⟨rfl, rfl⟩
        rw [hok]
        go_wp2_with fail
        go_ret
        exact ⟨rfl, rfl⟩
  · have hok2 : brokerB b = false := by simpa using hok
    have e : makeOf b n = 0 := by unfold makeOf; rw [if_neg (fun h => hok h.1)]
    rw [e]
    clear e hok
    go_enter Tryz.func21, Tryz.ntmps21
    go_wp2_with fail
    refine (rbroker_any b w).mono ?_
    rintro e w1 ⟨rfl, rfl⟩
    rw [hok2]
    go_wp2_with fail
    go_ret
    exact ⟨rfl, rfl⟩

end Go.Proofs.YtdbgplnjppaimaaGreat
