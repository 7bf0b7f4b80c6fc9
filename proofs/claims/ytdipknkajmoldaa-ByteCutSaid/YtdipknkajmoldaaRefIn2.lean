/- The document's reader: texts and long numbers. -/
import Derived.Test.YtdipknkajmoldaaRefIn
open Go Go.RowKit
namespace Go.Proofs.Ytdipknkajmoldaa

set_option maxHeartbeats 400000 in
theorem rtext_any (p : Nat) (g : Option Nat) (st : Option (List UInt8)) (w : World) (hR : RInR w p g st) :
    Calls Try.prog 34 #[.pointer (some ⟨p, 0, none⟩)] w fun e w' =>
      e = .returned (.string (bstr (rdT st))) ∧ RInS w p g (rdTs st) w' := by
  have hconv0 := fun W => run_convert_SlB (P := Try.prog) (w := W) (ao := none) (cp := 0) (l := []) ⟨by simp, by simp, by simp⟩ (src := 25) (dst := 9) Try.underlying25 Try.underlying5 Try.underlying9
  simp only [List.length_nil] at hconv0
  go_enter Try.func34, Try.ntmps34
  go_wp2_with fail
  refine (rsmall_any p g st w hR).mono ?_
  rintro e w' ⟨rfl, ⟨⟨ao, cp, l, bad, hV, rfl, hst⟩, hk⟩⟩
  have hT : rdT st = match stOf l bad with
    | some l => if rdN 2 st ≤ l.length then l.take (rdN 2 st) else []
    | none => [] := by rw [hst]; rfl
  have hTs : rdTs st = rdS (rdN 2 st) (stOf l bad) := by rw [hst]; rfl
  have hRw : RInR w' p (blockOf ao) (stOf l bad) := ⟨ao, cp, l, bad, hV, rfl, rfl⟩
  clear hst
  generalize rdN 2 st = n at hT hTs ⊢
  have HT := Lib.hid hT; clear hT
  have HTs := Lib.hid hTs; clear hTs
  by_cases h0 : n = 0
  · subst h0
    have HRw := Lib.hid hRw; have Hk := Lib.hid hk
    clear hRw hk
    go_wp2_with fail
    go_ret
    have e1 : rdS 0 (stOf l bad) = stOf l bad := by cases bad <;> simp [stOf, rdS]
    have e2 : (match stOf l bad with
      | some l => if 0 ≤ l.length then l.take 0 else []
      | none => []) = [] := by cases bad <;> simp [stOf]
    rw [HT.out, HTs.out, e1, e2]
    exact ⟨rfl, HRw.out, Hk.out⟩
  · have hn0 : ((n : Int) == 0) = false := by simp; exact h0
    clear h0 hRw
    go_wp2_with fail
    by_cases hb : bad = true ∨ l.length < n
    · refine (rtake_bad p ao cp l bad n w' hV hb).mono ?_
      rintro e w2 ⟨rfl, hs⟩
      have Hb := Lib.hid hb; clear hb
      go_wp2_with fail
      go_ret
      have e1 := (rd_bad l bad n Hb.out).2
      have e2 : (match stOf l bad with
        | some l => if n ≤ l.length then l.take n else []
        | none => []) = [] := by
        rcases Hb.out with h | h
        · subst h; rfl
        · cases bad
          · simp [stOf]; intro h2; omega
          · rfl
      rw [HT.out, HTs.out, e1, e2]
      exact ⟨rfl, RInS.trans hk hs⟩
    · obtain ⟨rfl, hn⟩ := not_bad hb
      clear hb
      refine (rtake_ok p ao cp l n w' hV hn).mono ?_
      rintro e w2 ⟨rfl, hs⟩
      have hsl := (hV.2.1.take n).keep hs.2 (fun g hg e => by subst e; exact hV.2.2 hg)
      have hconv := run_convert_SlB (P := Try.prog) hsl (src := 25) (dst := 9) Try.underlying25 Try.underlying5 Try.underlying9
      rw [List.length_take, Nat.min_eq_left hn] at hconv
      clear hsl
      have Hs := Lib.hid hs; clear hs
      go_wp2_with fail
      go_ret
      have e1 : rdS n (stOf l false) = some (l.drop n) := by simp [stOf, rdS, hn]
      have e2 : (match stOf l false with
        | some l => if n ≤ l.length then l.take n else []
        | none => []) = l.take n := by simp [stOf, hn]
      rw [HT.out, HTs.out, e1, e2]
      exact ⟨rfl, RInS.trans hk Hs.out⟩

/-- The highest of the bytes from k on. -/
theorem leNat_drop_step (l : List UInt8) (k : Nat) (hk : k < l.length) : leNat (l.drop k) = (l[k]).toNat + 256 * leNat (l.drop (k + 1)) := by
  rw [List.drop_eq_getElem_cons hk, leNat]

theorem wrap64_zero : wrap64 ((0 : Nat) : Int) = 0 := by unfold wrap64; decide

theorem shl_or_i64 (N x : Nat) (hN : N < 256 ^ 7) (hx : x < 256) :
    bits .or .i64 (wrap64 (wrap64 (N : Int) * 256)) (x : Int) = wrap64 ((x + 256 * N : Nat) : Int) := by
  have e7 : (256 : Nat) ^ 7 = 72057594037927936 := rfl
  rw [e7] at hN
  have e1 : wrap64 (N : Int) = N := by unfold wrap64; omega
  rw [e1, bits_or_nat]
  have e0 : wrap64 ((N : Int) * 256) = ((N : Int) * 256 + 9223372036854775808) % 18446744073709551616 - 9223372036854775808 := by unfold wrap64; rfl
  rw [e0]
  have eb : IntKind.i64.bits = 64 := rfl
  have e64 : (2 : Nat) ^ 64 = 18446744073709551616 := rfl
  rw [eb, e64]
  have ea : (((((N : Int) * 256 + 9223372036854775808) % 18446744073709551616 - 9223372036854775808)) % ((18446744073709551616 : Nat) : Int)).toNat = N * 2 ^ 8 := by
    have : (2 : Nat) ^ 8 = 256 := rfl
    omega
  have ey : ((x : Int) % ((18446744073709551616 : Nat) : Int)).toNat = x := by omega
  rw [ea, ey, Nat.or_comm, nat_or_shift x N 8 hx]
  unfold wrap64
  have : (2 : Nat) ^ 8 = 256 := rfl
  rw [this, IntKind.wrap_i64]
  omega

set_option maxHeartbeats 800000 in
theorem rlong_any (p : Nat) (g : Option Nat) (st : Option (List UInt8)) (w : World) (hR : RInR w p g st) :
    Calls Try.prog 32 #[.pointer (some ⟨p, 0, none⟩)] w fun e w' =>
      e = .returned (.int .i64 (wrap64 (rdN 8 st))) ∧ RInS w p g (rdS 8 st) w' := by
  obtain ⟨ao, cp, l, bad, hV, rfl, rfl⟩ := hR
  by_cases hb : bad = true ∨ l.length < 8
  · obtain ⟨e1, e2⟩ := rd_bad l bad 8 hb
    rw [e1, e2, show wrap64 ((0 : Nat) : Int) = 0 from wrap64_zero]
    clear e1 e2
    go_enter Try.func32, Try.ntmps32
    go_wp2_with (go_at_call 50; refine (rtake_bad p ao cp l bad 8 w hV hb).mono ?_; rintro e w' ⟨rfl, hs⟩)
    refine wp_loop_rounds 1 ?_
    rw [rounds_succ]
    go_wp2_with fail
    go_ret
    exact ⟨rfl, hs⟩
  · obtain ⟨rfl, hn⟩ := not_bad hb
    clear hb
    obtain ⟨e1, e2⟩ := rd_good l 8 hn
    rw [e1, e2]
    clear e1 e2
    go_enter Try.func32, Try.ntmps32
    go_wp2_with fail
    refine (rtake_ok p _ cp l 8 w hV hn).mono ?_
    rintro e w' ⟨rfl, hs⟩
    have hsl := (hV.2.1.take 8).keep hs.2 (fun g hg e => by subst e; exact hV.2.2 hg)
    have hl8 : (l.take 8).length = 8 := by rw [List.length_take]; omega
    have Hs := Lib.hid hs; have SL := Lib.hid hsl; have L8 := Lib.hid hl8
    obtain ⟨m, hm8⟩ : ∃ m, l.take 8 = m := ⟨_, rfl⟩
    rw [hm8] at SL L8
    have HM := Lib.hid hm8; clear hm8
    clear hs hsl hl8 hV
    go_wp2_with fail
    go_loopw [4, 5] (fun nv iv wr => ∃ k : Nat, k ≤ 8 ∧ iv = .int .i64 ((k : Int) - 1) ∧ nv = .int .i64 (wrap64 (leNat (m.drop k) : Nat)) ∧ wr = w') (fun _ iv _ => (intOf iv + 1).toNat)
    case atStart => exact ⟨8, by omega, rfl, by rw [List.drop_eq_nil_of_le (by rw [L8.out]; exact Nat.le_refl _), leNat, wrap64_zero], rfl⟩
    case round =>
      obtain ⟨k, hk, rfl, rfl, rfl⟩ := hrel
      cases k with
      | zero =>
        go_wp2_with fail
        go_ret
        refine ⟨?_, Hs.out⟩
        rw [HM.out]
        rfl
      | succ j =>
        obtain ⟨g, off, rfl, hc⟩ := SL.out.2.2 j (by rw [L8.out]; omega)
        have hm := leNat_drop_step m j (by rw [L8.out]; omega)
        have hlt := leNat_lt (m.drop (j + 1))
        have hlt2 : leNat (m.drop (j + 1)) < 256 ^ 7 := Nat.lt_of_lt_of_le hlt (Nat.pow_le_pow_right (by decide) (by rw [List.length_drop, L8.out]; omega))
        have x8 := (m[j]'(by rw [L8.out]; omega)).toNat_lt
        have ej : ((j + 1 : Nat) : Int) - 1 = (j : Int) := by omega
        have hor := shl_or_i64 (leNat (m.drop (j + 1))) (m[j]'(by rw [L8.out]; omega)).toNat hlt2 x8
        rw [← hm] at hor
        have bw : -9223372036854775808 ≤ wrap64 ((leNat (m.drop (j + 1)) : Nat) : Int) ∧ wrap64 ((leNat (m.drop (j + 1)) : Nat) : Int) ≤ 9223372036854775807 := by unfold wrap64; omega
        simp [bval] at hc
        generalize wrap64 ((leNat (m.drop (j + 1)) : Nat) : Int) = N at hor bw ⊢
        obtain ⟨N2, hN2⟩ : ∃ N2, wrap64 ((leNat (m.drop j) : Nat) : Int) = N2 := ⟨_, rfl⟩
        rw [hN2] at hor
        have HN2 := Lib.hid hN2; clear hN2
        rw [ej]
        clear hm hlt hlt2
        go_wp2_with fail
        go_roundw
        case rel => exact ⟨j, by omega, rfl, by rw [HN2.out], trivial⟩
        case measure => simp [intOf]
end Go.Proofs.Ytdipknkajmoldaa
