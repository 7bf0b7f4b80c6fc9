/- The law's begun. -/
import Derived.Test.YtdbgplnjppaimaaGreatCmp6
import Derived.Test.YtdbgplnjppaimaaGreatTim2L
open Go Go.Proofs Go.RowKit Go.Maps Go.Sort Go.Shelf
namespace Go.Proofs.YtdbgplnjppaimaaGreat
abbrev tx : ByteArray := ⟨#[120]⟩
abbrev ta : ByteArray := ⟨#[97]⟩
theorem cmp_xa : cmpS tx ta = 1 := by kernel_rfl
theorem cmp_ax : cmpS ta tx = -1 := by kernel_rfl
theorem cmp_xx : cmpS tx tx = 0 := by kernel_rfl
theorem bst1 : addWS cmpS [] tx 2 = [(tx, 2)] ∧ nowWS cmpS [] tx 2 = 2 := ⟨rfl, rfl⟩
theorem bst2 : addWS cmpS [(tx, 2)] ta 1 = [(ta, 1), (tx, 2)] ∧ nowWS cmpS [(tx, 2)] ta 1 = 1 := by
  unfold addWS nowWS; simp [cmp_xa, addS, nowS, hadS, foundS, Int.max_def]
theorem bst3 : addWS cmpS [(ta, 1), (tx, 2)] tx (-5) = [(ta, 1)] ∧ nowWS cmpS [(ta, 1), (tx, 2)] tx (-5) = 0 := by
  unfold addWS nowWS; simp [cmp_ax, cmp_xx, addS, nowS, hadS, foundS, Int.max_def]
theorem bst4 : atS [(ta, 1), (tx, 2)] 1 = some tx := rfl
theorem bsrt1 : srtL [7] = [7] := by unfold srtL; simp [once]
set_option maxHeartbeats 8000000 in
set_option maxRecDepth 8000 in
theorem begun6_any (w : World) : Calls Tryz.prog 48 #[] w fun e w' => e = .returned (.bool true) ∧ Keep NoF w w' := by
  go_enter Tryz.func48, Tryz.ntmps48
  go_wp2_with fail
  refine (newS_any 55 #[] w).mono ?_
  rintro e w1 ⟨b, rfl, hB, hk, hb⟩
  have HB1 := Lib.hid hB; have K1 := Lib.hid hk
  clear hB hk
  go_wp2_with fail
  refine (newTimL_any 2 w1).mono ?_
  rintro e w2 ⟨p, m, rfl, hT, hk, hp, hm⟩
  have hs1 := K1.out.size
  have hlt : b < w1.heap.size := lt_of_heap HB1.out.row
  have HT2 := Lib.hid hT; have K2 := Lib.hid (K1.out.trans' hk)
  have HB2 := Lib.hid (HB1.out.keep hk (fun f => f) (fun _ _ f => f))
  have FR : Hid (w.heap.size ≤ b ∧ w.heap.size ≤ p ∧ w.heap.size ≤ m ∧ b ≠ p ∧ b ≠ m) := Lib.hid ⟨by omega, by omega, by omega, by omega, by omega⟩
  have LT : Hid (p < w2.heap.size ∧ m < w2.heap.size ∧ b < w2.heap.size) := Lib.hid ⟨hT.lt.1, hT.lt.2, by have := hk.size; omega⟩
  have OWN2 : Hid (∀ j, (Value.slice none 0 0).ownBlock = some j → w2.heap.size ≤ j) := Lib.hid nofun
  have S2 : Hid (w2.heap.size ≤ w2.heap.size) := Lib.hid (Nat.le_refl _)
  clear hT hk hp hm HB1 hs1 hlt hb
  go_wp2_with fail
  refine (newI_nil w2).mono ?_
  rintro e w2' ⟨rfl, hw⟩
  obtain rfl : w2 = w2' := hw.symm
  go_wp2_with fail
  refine (addCS_any b _ [] tx 2 w2 HB2.out (by decide) (fun i j hi hj => by simp at hi) (by simp) (by decide)).mono ?_
  rintro e w3 ⟨v3, rfl, hB, hk, hf⟩
  rw [bst1.1] at hB
  rw [bst1.2]
  have hw2 : w2.heap.size ≤ w2.heap.size := S2.out
  have HOWN3 : Hid (∀ j, v3.ownBlock = some j → w2.heap.size ≤ j) := Lib.hid fun j hj => by
    rcases hf j hj with f | f
    · exact OWN2.out j f
    · omega
  have OWN3 := HOWN3
  have HB3 := Lib.hid hB
  have HT3 := Lib.hid (HT2.out.keep hk (fun f => f.elim (fun f => by have := FR.out; omega) (fun f => by have := OWN2.out _ f; have := LT.out; omega)) (fun f => f.elim (fun f => by have := FR.out; omega) (fun f => by have := OWN2.out _ f; have := LT.out; omega)))
  have K3 := Lib.hid (K2.out.trans hk (fun _ _ f => f) (fun j hj f => f.elim (fun f => by have := FR.out; omega) (fun f => by have := OWN2.out _ f; have := K2.out.size; omega)))
  have S3 : Hid (w2.heap.size ≤ w3.heap.size) := Lib.hid (Nat.le_trans hw2 hk.size)
  clear hB hk hf hw2
  go_wp2_with fail
  refine (addCS_any b _ [(tx, 2)] ta 1 w3 HB3.out (by decide) (fun i j hi hj hij h => by simp at hi hj; subst hi; subst hj; exact h) (by simp) (by decide)).mono ?_
  rintro e w4 ⟨v4, rfl, hB, hk, hf⟩
  rw [bst2.1] at hB
  rw [bst2.2]
  have hw2 : w2.heap.size ≤ w3.heap.size := S3.out
  have HOWN4 : Hid (∀ j, v4.ownBlock = some j → w2.heap.size ≤ j) := Lib.hid fun j hj => by
    rcases hf j hj with f | f
    · exact OWN3.out j f
    · omega
  have OWN4 := HOWN4
  have HB4 := Lib.hid hB
  have HT4 := Lib.hid (HT3.out.keep hk (fun f => f.elim (fun f => by have := FR.out; omega) (fun f => by have := OWN3.out _ f; have := LT.out; omega)) (fun f => f.elim (fun f => by have := FR.out; omega) (fun f => by have := OWN3.out _ f; have := LT.out; omega)))
  have K4 := Lib.hid (K3.out.trans hk (fun _ _ f => f) (fun j hj f => f.elim (fun f => by have := FR.out; omega) (fun f => by have := OWN3.out _ f; have := K2.out.size; omega)))
  have S4 : Hid (w2.heap.size ≤ w4.heap.size) := Lib.hid (Nat.le_trans hw2 hk.size)
  clear hB hk hf hw2
  go_wp2_with fail
  have hat := atS_any b _ #[] _ [(ta, 1), (tx, 2)] 1 w4 HB4.out (by decide) (by simp) (by decide)
  rw [bst4] at hat
  have HAT := Lib.hid hat
  clear hat
  refine HAT.out.mono ?_
  rintro e w5 ⟨rfl, hk⟩
  have HB5 := Lib.hid (HB4.out.keep hk (fun f => f) (fun _ _ f => f)); have HT5 := Lib.hid (HT4.out.keep hk (fun f => f) (fun f => f)); have OWN5 := OWN4
  have K5 := Lib.hid (K4.out.trans' hk); have S5 : Hid (w2.heap.size ≤ w5.heap.size) := Lib.hid (Nat.le_trans S4.out hk.size)
  clear hk
  go_wp2_with fail
  refine (addCS_any b _ [(ta, 1), (tx, 2)] tx (-5) w5 HB5.out (by decide) (fun i j hi hj hij h => by
    simp at hi hj
    have hi2 : i = 0 ∨ i = 1 := by omega
    have hj2 : j = 0 ∨ j = 1 := by omega
    rcases hi2 with rfl | rfl <;> rcases hj2 with rfl | rfl
    · exact h
    · simp [cmp_xx] at h
    · omega
    · exact h) (by simp) (by decide)).mono ?_
  rintro e w6 ⟨v6, rfl, hB, hk, hf⟩
  rw [bst3.1] at hB
  rw [bst3.2]
  have hw2 : w2.heap.size ≤ w5.heap.size := S5.out
  have HOWN6 : Hid (∀ j, v6.ownBlock = some j → w2.heap.size ≤ j) := Lib.hid fun j hj => by
    rcases hf j hj with f | f
    · exact OWN5.out j f
    · omega
  have OWN6 := HOWN6
  have HB6 := Lib.hid hB
  have HT6 := Lib.hid (HT5.out.keep hk (fun f => f.elim (fun f => by have := FR.out; omega) (fun f => by have := OWN5.out _ f; have := LT.out; omega)) (fun f => f.elim (fun f => by have := FR.out; omega) (fun f => by have := OWN5.out _ f; have := LT.out; omega)))
  have K6 := Lib.hid (K5.out.trans hk (fun _ _ f => f) (fun j hj f => f.elim (fun f => by have := FR.out; omega) (fun f => by have := OWN5.out _ f; have := K2.out.size; omega)))
  have S6 : Hid (w2.heap.size ≤ w6.heap.size) := Lib.hid (Nat.le_trans hw2 hk.size)
  clear hB hk hf hw2
  go_wp2_with fail
  refine (heardL_any p m 0 2 [] _ 7 (by decide) w6 HT6.out (by decide)).mono ?_
  rintro e w7 ⟨rfl, hT, hk⟩
  have HT7 := Lib.hid (hT.congr (ks' := [7]) (f' := fun _ => 0) (by simp) (fun x hx => by simp at hx; simp [hx]))
  clear hT
  have HB7 := Lib.hid (HB6.out.keep hk (fun f => by have := FR.out; omega) (fun j hj f => by have := OWN6.out j hj; have := LT.out; omega))
  have OWN7 := OWN6
  have K7 := Lib.hid (K6.out.trans hk (fun _ _ f => f) (fun j hj f => by have := FR.out; omega))
  have S7 : Hid (w2.heap.size ≤ w7.heap.size) := Lib.hid (Nat.le_trans S6.out hk.size)
  clear hk
  go_wp2_with fail
  refine (heardL_any p m 1 2 [7] _ 7 (by decide) w7 HT7.out (by decide)).mono ?_
  rintro e w8 ⟨rfl, hT, hk⟩
  have HT8 := Lib.hid (hT.congr (ks' := [7]) (f' := fun _ => 0) (by simp) (fun x hx => by simp at hx; simp [hx]))
  clear hT
  have HB8 := Lib.hid (HB7.out.keep hk (fun f => by have := FR.out; omega) (fun j hj f => by have := OWN7.out j hj; have := LT.out; omega))
  have OWN8 := OWN7
  have K8 := Lib.hid (K7.out.trans hk (fun _ _ f => f) (fun j hj f => by have := FR.out; omega))
  have S8 : Hid (w2.heap.size ≤ w8.heap.size) := Lib.hid (Nat.le_trans S7.out hk.size)
  clear hk
  go_wp2_with fail
  refine (tickL_any p m 2 2 [7] _ w8 HT8.out (by rw [bsrt1]; decide)).mono ?_
  rintro e w9 ⟨l1, rfl, hrow, hfr, hT, hk⟩
  rw [show lateL 2 [7] (fun _ => 0) = [] by unfold lateL; rw [bsrt1]; simp] at hrow
  rw [bsrt1] at hT
  obtain ⟨a1, c1, hl1⟩ := row_slice hrow
  simp only [List.length_nil] at hl1
  subst hl1
  clear hrow hfr
  have HT9 := Lib.hid hT
  clear hT
  have HB9 := Lib.hid (HB8.out.keep hk (fun f => by have := FR.out; omega) (fun j hj f => by have := OWN8.out j hj; have := LT.out; omega))
  have OWN9 := OWN8
  have K9 := Lib.hid (K8.out.trans hk (fun _ _ f => f) (fun j hj f => by have := FR.out; omega))
  have S9 : Hid (w2.heap.size ≤ w9.heap.size) := Lib.hid (Nat.le_trans S8.out hk.size)
  clear hk
  go_wp2_with fail
  refine (tickL_any p m 3 2 [7] _ w9 HT9.out (by rw [bsrt1]; decide)).mono ?_
  rintro e w10 ⟨l2, rfl, hrow, hfr, hT, hk⟩
  rw [show lateL 2 [7] (fun z => (fun _ => (0 : Int)) z + 1) = [7] by unfold lateL; rw [bsrt1]; simp] at hrow
  rw [bsrt1] at hT
  have HROW := Lib.hid hrow
  obtain ⟨a2, c2, hl2⟩ := row_slice hrow
  simp only [List.length_cons, List.length_nil, Nat.zero_add] at hl2
  subst hl2
  clear hrow hfr
  have HT10 := Lib.hid hT
  clear hT
  have HB10 := Lib.hid (HB9.out.keep hk (fun f => by have := FR.out; omega) (fun j hj f => by have := OWN9.out j hj; have := LT.out; omega))
  have OWN10 := OWN9
  have K10 := Lib.hid (K9.out.trans hk (fun _ _ f => f) (fun j hj f => by have := FR.out; omega))
  have S10 : Hid (w2.heap.size ≤ w10.heap.size) := Lib.hid (Nat.le_trans S9.out hk.size)
  clear hk
  obtain ⟨gm, om, hgm, hcm⟩ := (row_slG (enc := Value.int .i64) (l := [7]) rfl HROW.out).2.2 0 (by decide)
  rw [Nat.add_zero] at hcm
  subst hgm
  go_wp2_with fail
  refine (lenS_any b _ #[] _ [(ta, 1)] w10 HB10.out (by decide) (by simp)).mono ?_
  rintro e w' ⟨rfl, hw⟩
  obtain rfl : w10 = w' := hw.symm
  rw [show sumS [(ta, 1)] = 1 from rfl]
  go_wp2_with fail
  refine (kindsS_any b _ #[] _ [(ta, 1)] w10 HB10.out).mono ?_
  rintro e w' ⟨rfl, hw⟩
  obtain rfl : w10 = w' := hw.symm
  rw [show ((([(ta, 1)] : List (ByteArray × Int)).length : Nat) : Int) = 1 from rfl]
  go_wp2_with fail
  refine (ageL_any p m _ 2 [7] _ 7 (by decide) w10 HT10.out).mono ?_
  rintro e w' ⟨rfl, hw⟩
  obtain rfl : w10 = w' := hw.symm
  rw [show ageL [7] (fun z => (fun z => (fun _ => (0 : Int)) z + 1) z + 1) 7 = 2 from by simp [ageL]]
  go_wp2_with fail
  refine (ageL_any p m _ 2 [7] _ 8 (by decide) w10 HT10.out).mono ?_
  rintro e w' ⟨rfl, hw⟩
  obtain rfl : w10 = w' := hw.symm
  rw [show ageL [7] (fun z => (fun z => (fun _ => (0 : Int)) z + 1) z + 1) 8 = -1 from by simp [ageL]]
  go_wp2_with fail
  refine (goneL_any p m _ 2 [7] _ 7 (by decide) w10 HT10.out).mono ?_
  rintro e w11 ⟨rfl, hT, hk⟩
  rw [show decide ((7 : Int) ∈ [(7 : Int)]) = true from by decide]
  have HT11 := Lib.hid (hT.congr (ks' := []) (f' := fun _ => 0) (by simp) (by simp))
  have K11 := Lib.hid (K10.out.trans hk (fun _ _ f => f) (fun j hj f => by have := FR.out; omega))
  clear hT hk
  go_wp2_with fail
  refine (hasL_any p m _ 2 [] _ 7 (by decide) w11 HT11.out).mono ?_
  rintro e w' ⟨rfl, hw⟩
  obtain rfl : w11 = w' := hw.symm
  rw [show decide ((7 : Int) ∈ ([] : List Int)) = false from by decide]
  go_wp2_with fail
  go_ret
  exact ⟨rfl, K11.out⟩
end Go.Proofs.YtdbgplnjppaimaaGreat
