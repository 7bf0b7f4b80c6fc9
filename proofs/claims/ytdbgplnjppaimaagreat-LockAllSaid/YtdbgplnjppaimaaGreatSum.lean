/- The package sum: its three functions compute Castagnoli's sum. -/
import Derived.Test.YtdbgplnjppaimaaGreatChecked
import Derived.Test.YtdbgplnjppaimaaGreatIn
import Derived.Test.YtdbgplnjppaimaaGreatCrc
open Go Go.RowKit
namespace Go.Proofs.YtdbgplnjppaimaaGreat

set_option maxHeartbeats 400000 in
theorem bits_any (s : Nat) (x : UInt8) (w : World) (hs : s < 4294967296) :
    Calls Tryz.prog 132 #[.int .u32 s, .int .u8 (x.toNat : Int)] w fun e w' => e = .returned (.int .u32 (crcByte s x)) ∧ w = w' := by
  have hx := x.toNat_lt
  have h0 := xor_u32 s x.toNat hs (by omega)
  have hb0 := xor_lt32 hs (show x.toNat < 4294967296 by omega)
  have hfin : crcByte s x = crcN 8 (s ^^^ x.toNat) := rfl
  rw [hfin]
  clear hfin
  generalize s ^^^ x.toNat = m at h0 hb0 ⊢
  go_enter Tryz.func132, Tryz.ntmps132
  go_wp2
  go_loop [0, 10] (fun sv i => ∃ k : Nat, k ≤ 8 ∧ i = .int .i64 k ∧ sv = .int .u32 (crcN k m)) (fun _ i => 8 - (intOf i).toNat)
  case atStart => exact ⟨0, Nat.zero_le _, rfl, rfl⟩
  case round =>
    obtain ⟨k, hk, rfl, rfl⟩ := hrel
    by_cases hlt : k < 8
    · have hb := crcN_lt k hb0
      have hn : crcN (k + 1) m = crcStep (crcN k m) := rfl
      have Hn := Lib.hid hn; clear hn
      have ha := and1_u32 (crcN k m) hb
      have hx2 : bits .xor .u32 ((crcN k m : Int) / 2) 2197175160 = ((crcN k m / 2 ^^^ 2197175160 : Nat) : Int) := xor_u32 (crcN k m / 2) 2197175160 (by omega) (by decide)
      generalize hq : crcN k m = q at ha hx2 hb ⊢
      have Hq := Lib.hid hq; clear hq
      by_cases h1 : q % 2 = 1
      · rw [h1] at ha
        have e : crcStep q = (q / 2) ^^^ 2197175160 := by unfold crcStep; rw [if_pos h1]
        have He := Lib.hid e; clear e
        clear h1
        go_wp2
        go_round
        case rel => exact ⟨k + 1, by omega, by go_num, by rw [Hn.out, Hq.out, He.out]⟩
        case measure => simp [intOf]; omega
      · have h2 : q % 2 = 0 := by omega
        rw [h2] at ha
        have e : crcStep q = q / 2 := by unfold crcStep; rw [if_neg h1]
        have He := Lib.hid e; clear e
        clear h1 h2
        go_wp2
        go_round
        case rel => exact ⟨k + 1, by omega, by go_num, by rw [Hn.out, Hq.out, He.out]; rfl⟩
        case measure => simp [intOf]; omega
    · obtain rfl : k = 8 := by omega
      go_wp2
      go_ret
      exact ⟨rfl, rfl⟩

theorem foldl_take_succ (l : List UInt8) (s k : Nat) (h : k < l.length) : (l.take (k + 1)).foldl crcByte s = crcByte ((l.take k).foldl crcByte s) l[k] := by
  rw [List.take_succ_eq_append_getElem h, List.foldl_append]; rfl

set_option maxHeartbeats 400000 in
theorem on_any (s : Nat) (ao : Option Addr) (cp : Nat) (l : List UInt8) (w : World) (hs : s < 4294967296) (hl : SlB w ao cp l) :
    Calls Tryz.prog 124 #[.int .u32 s, .slice ao l.length cp] w fun e w' => e = .returned (.int .u32 (crcOn s l)) ∧ w = w' := by
  have hmx := hl.2.1
  have hcp := hl.1
  unfold maxLen at hmx
  have h0 : bits .xor .u32 IntKind.u32.max (s : Int) = ((s ^^^ 4294967295 : Nat) : Int) := by rw [Nat.xor_comm]; exact xor_u32 4294967295 s (by decide) hs
  have hm0 := xor_lt32 hs (show 4294967295 < 4294967296 by decide)
  have hfin : crcOn s l = (l.foldl crcByte (s ^^^ 4294967295)) ^^^ 4294967295 := rfl
  rw [hfin]
  clear hfin
  generalize s ^^^ 4294967295 = m at h0 hm0 ⊢
  go_enter Tryz.func124, Tryz.ntmps124
  go_wp2
  go_loop [5, 12] (fun sv i => ∃ k : Nat, k ≤ l.length ∧ i = .int .i64 k ∧ sv = .int .u32 (((l.take k).foldl crcByte m : Nat) : Int)) (fun _ i => l.length - (intOf i).toNat)
  case atStart => exact ⟨0, Nat.zero_le _, rfl, rfl⟩
  case round =>
    obtain ⟨k, hk, rfl, rfl⟩ := hrel
    have hb := crcFold_lt (l.take k) hm0
    by_cases hlt : k < l.length
    · obtain ⟨g, off, rfl, hcell⟩ := hl.2.2 k hlt
      simp only [bval] at hcell
      have hn := foldl_take_succ l m k hlt
      have Hn := Lib.hid hn; clear hn
      generalize (l.take k).foldl crcByte m = q at hb Hn ⊢
      go_wp2_with (go_at_call 132; refine (bits_any q l[k] _ hb).mono ?_; rintro e w' ⟨rfl, rfl⟩)
      go_round
      case rel => exact ⟨k + 1, by omega, by go_num, by rw [Hn.out]⟩
      case measure => simp [intOf]; omega
    · obtain hk2 : k = l.length := by omega
      have ht : l.take k = l := by rw [hk2]; exact List.take_length
      have h1 : bits .xor .u32 IntKind.u32.max (((l.take k).foldl crcByte m : Nat) : Int) = (((l.foldl crcByte m) ^^^ 4294967295 : Nat) : Int) := by
        rw [ht] at hb ⊢; rw [Nat.xor_comm]; exact xor_u32 4294967295 _ (by decide) hb
      clear hk2 ht
      go_wp2
      go_ret
      exact ⟨rfl, rfl⟩

set_option maxHeartbeats 400000 in
theorem of_any (ao : Option Addr) (cp : Nat) (l : List UInt8) (w : World) (hl : SlB w ao cp l) :
    Calls Tryz.prog 110 #[.slice ao l.length cp] w fun e w' => e = .returned (.int .u32 (crcOf l)) ∧ w = w' := by
  go_enter Tryz.func110, Tryz.ntmps110
  go_wp2_with (go_at_call 124; refine (on_any 0 ao cp l w (by decide) hl).mono ?_; rintro e w' ⟨rfl, rfl⟩)
  go_ret
  exact ⟨rfl, rfl⟩
end Go.Proofs.YtdbgplnjppaimaaGreat
