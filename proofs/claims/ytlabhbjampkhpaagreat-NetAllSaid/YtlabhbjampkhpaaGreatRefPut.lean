/- The document's writers: what each returns. -/
import Derived.Test.YtlabhbjampkhpaaGreatRows1
open Go Go.RowKit
namespace Go.Proofs.YtlabhbjampkhpaaGreat

theorem OwnB.lit (w : World) (l : List UInt8) (cs : Array Value) (n : Nat) (hn : n = l.length) (hm : n ≤ maxLen) (hc : cs = (bvs l).toArray) : OwnB (w.alloc (.cells cs 5 (0, 0))) (.slice (some ⟨w.heap.size, 0, none⟩) n n) l := by
  subst hn hc
  have h := World.ownsRow_lit (base := 0) (e := 5) (size := 1) w (bvs l).toArray l.length (Nat.zero_le _) hm (by simp [bvs_length])
  rw [OwnB]
  simpa using h

theorem smallB_vals (n : Int) : bvs (smallB n) = [.int .u8 (n % 256 % 256), .int .u8 (n / 256 % 256 % 256)] := by
  simp [smallB, leBytes, bvs, bval_ofNat]
  omega
theorem leBytes_snoc (j m : Nat) : leBytes (j + 1) m = leBytes j m ++ [UInt8.ofNat (m / 256 ^ j)] := by
  induction j generalizing m with
  | zero => simp [leBytes]
  | succ j ih =>
    rw [leBytes, ih (m / 256)]
    simp only [leBytes, List.cons_append]
    rw [Nat.div_div_eq_div_mul, Nat.pow_succ, Nat.mul_comm]
theorem long_byte (n : Int) (j : Nat) (hj : j < 8) : n / 2 ^ (8 * j) % 256 = (((n % 18446744073709551616).toNat / 256 ^ j : Nat) : Int) % 256 := by
  have e1 : (((n % 18446744073709551616).toNat / 256 ^ j : Nat) : Int) = (n % 18446744073709551616) / 256 ^ j := by
    rw [Int.natCast_ediv, Int.toNat_of_nonneg (Int.emod_nonneg _ (by decide))]
    congr 1
  have e2 : (2 : Int) ^ (8 * j) = 256 ^ j := by rw [Int.pow_mul]; rfl
  have e3 : (18446744073709551616 : Int) = 256 ^ j * (256 * 256 ^ (7 - j)) := by
    rw [← Int.pow_succ', ← Int.pow_add, show j + (7 - j + 1) = 8 by omega]; rfl
  have hp : (0 : Int) < 256 ^ j := Int.pow_pos (by decide)
  rw [e1, e2]
  have e4 : n = n % 18446744073709551616 + 256 ^ j * (256 * (256 ^ (7 - j) * (n / 18446744073709551616))) := by
    have h := Int.emod_add_mul_ediv n 18446744073709551616
    have h2 : (18446744073709551616 : Int) * (n / 18446744073709551616) = 256 ^ j * (256 * (256 ^ (7 - j) * (n / 18446744073709551616))) := by
      have : ∀ z : Int, (18446744073709551616 : Int) * z = 256 ^ j * (256 * (256 ^ (7 - j) * z)) := by
        intro z; rw [e3, Int.mul_assoc, Int.mul_assoc]
      exact this _
    rw [← h2]; exact h.symm
  generalize n % 18446744073709551616 = r at e4 ⊢
  generalize 256 ^ (7 - j) * (n / 18446744073709551616) = q at e4
  subst e4
  rw [Int.add_mul_ediv_left _ _ (by omega), Int.add_mul_emod_self_left]

set_option maxHeartbeats 400000 in
theorem refSmall_any (n : Int) (w : World) :
    Calls Tryz.prog 41 #[.int .i64 n] w fun e w' =>
      ∃ v, e = .returned v ∧ OwnB w' v (smallB n) ∧ Keep NoF w w' ∧ ∀ k, v.ownBlock = some k → w.heap.size ≤ k := by
  go_enter Tryz.func41, Tryz.ntmps41
  go_wp2_with fail
  go_ret
  refine ⟨_, rfl, OwnB.lit w (smallB n) _ 2 rfl (by decide) ?_, (Keep.refl NoF w).alloc _, fun k hk => Nat.le_of_eq (Option.some.inj hk)⟩
  rw [and_255_i64, and_255_i64, smallB_vals n]

set_option maxHeartbeats 400000 in
theorem refTruth_any (x : Bool) (w : World) :
    Calls Tryz.prog 43 #[.bool x] w fun e w' =>
      ∃ v, e = .returned v ∧ OwnB w' v (truthB x) ∧ Keep NoF w w' ∧ ∀ k, v.ownBlock = some k → w.heap.size ≤ k := by
  cases x
  all_goals
    go_enter Tryz.func43, Tryz.ntmps43
    go_wp2_with fail
    go_ret
    exact ⟨_, rfl, OwnB.lit w _ _ 1 rfl (by decide) (by simp [truthB, leBytes, bvs, bval]), (Keep.refl NoF w).alloc _, fun k hk => Nat.le_of_eq (Option.some.inj hk)⟩

set_option maxHeartbeats 400000 in
theorem refLong_any (n : Int) (w : World) :
    Calls Tryz.prog 42 #[.int .i64 n] w fun e w' =>
      ∃ v, e = .returned v ∧ OwnB w' v (longB n) ∧ Keep NoF w w' ∧ ∀ k, v.ownBlock = some k → w.heap.size ≤ k := by
  go_enter Tryz.func42, Tryz.ntmps42
  go_wp2_with fail
  go_loopw [3, 4] (fun bv iv wr => ∃ j c : Nat, j ≤ 8 ∧ c = 8 * j ∧ iv = .int .u64 c ∧ OwnB wr bv (leBytes j (n % 18446744073709551616).toNat) ∧ Keep NoF w wr ∧ ∀ k, bv.ownBlock = some k → w.heap.size ≤ k) (fun _ iv _ => 64 - (intOf iv).toNat)
  case atStart => exact ⟨0, 0, by omega, by omega, rfl, OwnB.nil _, Keep.refl _ _, fun k hk => by cases hk⟩
  case round =>
    obtain ⟨j, c, hj, hc, rfl, hO, hK, hF⟩ := hrel
    have HK := Lib.hid hK; have HF := Lib.hid hF
    clear hK hF
    by_cases hj8 : j < 8
    · have hc64 : c < 64 := by omega
      have Hc := Lib.hid hc
      clear hc
      have hown := hO
      unfold OwnB at hown
      rw [leBytes_length] at hown
      go_wp2_with (at_builtin; refine wpList_app 24 24 5 (.int .u8 0) 1 1 Tryz.underlying24 infoU8 rfl (by decide) (by decide) rfl rfl rfl rfl (hown.alloc _) (Src.one Tryz.underlying24 (heap_new _ _) rfl 1) ?_ ?_)
      · omega
      intro ao cp w1 hown' hgr hfr
      go_wp2_with fail
      go_roundw
      case rel =>
        refine ⟨j + 1, c + 8, by omega, by have := Hc.out; omega, by go_num, ?_, (HK.out.alloc _).grown hgr (fun k hk e => by have := HF.out k e; omega), fun k hk => ?_⟩
        · have e := long_byte n j hj8
          rw [and_255_i64, Hc.out, e] at hown'
          rw [OwnB, leBytes_length, leBytes_snoc, bvs_append]
          have e2 : bvs [UInt8.ofNat ((n % 18446744073709551616).toNat / 256 ^ j)] = [.int .u8 ((((n % 18446744073709551616).toNat / 256 ^ j : Nat) : Int) % 256 % 256)] := by
            rw [bvs, List.map_cons, List.map_nil, bval_ofNat, Int.emod_emod]
          rw [e2]
          exact hown'
        · rcases hfr with h | h <;> rw [h] at hk
          · exact HF.out k hk
          · injection hk with hk
            have := HK.out.size
            omega
      case measure => simp [intOf]; omega
    · obtain rfl : j = 8 := by omega
      subst hc
      go_wp2_with fail
      go_ret
      exact ⟨_, rfl, hO, HK.out, HF.out⟩

end Go.Proofs.YtlabhbjampkhpaaGreat
