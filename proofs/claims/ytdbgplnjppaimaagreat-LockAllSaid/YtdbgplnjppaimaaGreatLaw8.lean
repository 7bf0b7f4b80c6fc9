/- For the laws over kinds: plain facts on numbers; Cut. -/
import Derived.Test.YtdbgplnjppaimaaGreatBegun8
open Go Go.RowKit
namespace Go.Proofs.YtdbgplnjppaimaaGreat

theorem make_facts (b n : Int) : (makeOf b n = 0 ∧ ¬ (brokerB b = true ∧ 1 ≤ n ∧ n < 4294967296)) ∨
    ((1 ≤ b ∧ b ≤ 8 ∧ 1 ≤ n ∧ n < 4294967296) ∧ makeOf b n = b * 4294967296 + n ∧ tidB (makeOf b n) = true ∧ homeOf (makeOf b n) = b ∧ 4294967296 < makeOf b n ∧ makeOf b n < 38654705664) := by
  by_cases h : brokerB b = true ∧ 1 ≤ n ∧ n < 4294967296
  · right
    have e : makeOf b n = b * 4294967296 + n := by unfold makeOf; rw [if_pos h]
    have hb := brokerB_iff.1 h.1
    have hh : homeOf (makeOf b n) = b := by
      rw [e]; unfold homeOf; rw [if_pos (by omega)]; omega
    refine ⟨⟨hb.1, hb.2, h.2⟩, e, ?_, hh, by omega, by omega⟩
    unfold tidB; rw [hh]; simp; omega
  · left
    refine ⟨?_, h⟩
    unfold makeOf; rw [if_neg h]
theorem tid_zero : tidB 0 = false := by decide +kernel
theorem cut_size (s : ByteArray) (n : Nat) : (s.extract 0 (min s.size n)).size ≤ n := by simp; omega
def cutT (s : ByteArray) (n : Nat) : ByteArray := s.extract 0 (min s.size n)
theorem cutT_size (s : ByteArray) (n : Nat) : (cutT s n).size ≤ n := by simp [cutT]; omega
set_option maxHeartbeats 400000 in
theorem cut_any (s : ByteArray) (n : Nat) (w : World) (hn : n ≤ 1000000) :
    Calls Tryz.prog 24 #[.string s, .int .i64 n] w fun e w' => e = .returned (.string (cutT s n)) ∧ w' = w := by
  by_cases hc : n < s.size
  · have e : cutT s n = s.extract 0 n := by rw [cutT, Nat.min_eq_right (by omega)]
    rw [e]
    clear e
    go_enter Tryz.func24, Tryz.ntmps24
    go_wp2
    go_ret
    exact ⟨rfl, rfl⟩
  · have hc2 : s.size ≤ n := by omega
    have e : cutT s n = s := by rw [cutT, Nat.min_eq_left hc2]; simp
    rw [e]
    clear e
    go_enter Tryz.func24, Tryz.ntmps24
    go_wp2
    go_ret
    exact ⟨rfl, rfl⟩
end Go.Proofs.YtdbgplnjppaimaaGreat
