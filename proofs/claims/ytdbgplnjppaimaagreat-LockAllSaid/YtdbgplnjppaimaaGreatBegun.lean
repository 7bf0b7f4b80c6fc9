/- The statements' own opening check returns true. -/
import Derived.Test.YtdbgplnjppaimaaGreatChecked
import Derived.Test.YtdbgplnjppaimaaGreatIn
import Derived.Test.YtdbgplnjppaimaaGreatSum
open Go Go.RowKit
namespace Go.Proofs.YtdbgplnjppaimaaGreat

theorem OutV.slb {w : World} {b : Nat} {v : Value} {l : List UInt8} (h : OutV w b v l) : ∃ ao cp, v = .slice ao l.length cp ∧ SlB w ao cp l ∧ blockOf ao = v.ownBlock := by
  obtain ⟨hh, hown, hne⟩ := h
  rcases hown.2 with ⟨rfl, h0⟩ | ⟨g, cap, cur, rfl, _, hg, hnc, hcm, hcs, htake⟩
  · have hl : l = [] := List.eq_nil_of_length_eq_zero h0
    subst hl
    exact ⟨none, 0, rfl, ⟨by simp, by simp, by simp⟩, rfl⟩
  · refine ⟨some ⟨g, 0, none⟩, cap, rfl, ⟨hnc, hcm, fun i hi => ⟨g, 0, rfl, ?_⟩⟩, rfl⟩
    rw [cell_of_heap hg, Nat.zero_add]
    have h1 : (cur.toList.take (l.length * 1))[i]? = (bvs l)[i]? := by rw [htake]
    rw [List.getElem?_take_of_lt (by omega)] at h1
    rw [← Array.getElem?_toList, h1]
    simp [bvs, List.getElem?_eq_getElem hi]

theorem out_new (w : World) : OutR (w.alloc (.cells #[.slice none 0 0] 122)) w.heap.size none [] :=
  ⟨.slice none 0 0, ⟨heap_new _ _, World.ownsRow_nil _ _ _ _, by simp [Value.ownBlock]⟩, rfl⟩

set_option maxRecDepth 4000 in
theorem begunBytes : ([] ++ smallB 258 ++ longB (-2) ++ textB [97, 98] ++ truthB true : List UInt8) = [2, 1, 254, 255, 255, 255, 255, 255, 255, 255, 2, 0, 97, 98, 1] := by decide +kernel

set_option maxHeartbeats 1000000 in
theorem begun_any (w : World) : Calls Tryz.prog 91 #[] w fun e w' => e = .returned (.bool true) ∧ Keep NoF w w' := by
  go_enter Tryz.func91, Tryz.ntmps91
  go_wp2_with fail
  refine (small_any w.heap.size none [] 258 _ (out_new w) (by simp)).mono ?_
  rintro e w1 ⟨rfl, g1, hR1, hk1, hg1⟩
  go_wp2_with fail
  refine (long_any w.heap.size g1 _ (-2) _ hR1 (by simp [smallB_length])).mono ?_
  rintro e w2 ⟨rfl, hs⟩
  obtain ⟨g2, hR2, hk2, hg2⟩ := OutS.trans hk1 hg1 hs
  go_wp2_with fail
  refine (text_any w.heap.size g2 _ _ _ hR2 (by simp [smallB_length, longB_length]) (by decide)).mono ?_
  rintro e w3 ⟨rfl, hs⟩
  obtain ⟨g3, hR3, hk3, hg3⟩ := OutS.trans hk2 hg2 hs
  go_wp2_with fail
  refine (truth_any w.heap.size g3 _ true _ hR3 (by simp [smallB_length, longB_length, textB])).mono ?_
  rintro e w4 ⟨rfl, hs⟩
  obtain ⟨g4, hR4, hk4, hg4⟩ := OutS.trans hk3 hg3 hs
  have hL : ([] ++ smallB 258 ++ longB (-2) ++ textB (⟨#[97, 98]⟩ : ByteArray).data.toList ++ truthB true : List UInt8) = [2, 1, 254, 255, 255, 255, 255, 255, 255, 255, 2, 0, 97, 98, 1] := begunBytes
  rw [hL] at hR4
  have hk04 : Keep NoF w w4 := ((Keep.refl NoF w).alloc _).trans hk4 (fun _ _ f => f) (fun i hi f => by
    rcases f with f | f
    · subst f; exact absurd hi (Nat.lt_irrefl _)
    · cases f)
  clear hL hs hR1 hR2 hR3 hk1 hk2 hk3 hg1 hg2 hg3 hk4 hg4
  obtain ⟨v, hv, rfl⟩ := hR4
  obtain ⟨ao, cp, rfl, hsl, hbk⟩ := hv.slb
  have hh := hv.1
  have hne := hv.2.2
  clear hv
  obtain ⟨g, off, rfl, hb0⟩ := hsl.2.2 0 (by simp)
  obtain ⟨g', off', e, hb1⟩ := hsl.2.2 1 (by simp)
  injection e with e; injection e with e1 e2; subst e1 e2
  have hg := World.block_lt_of_cell? w4 _ hb0
  have hcB := cell_of_heap hh 0
  simp at hcB
  simp [bval] at hb0 hb1
  go_wp2_with fail
  refine (read_any _ cp _ w4 hsl (by simp [blockOf]; exact hg)).mono ?_
  rintro e w5 ⟨rfl, hR5, hk5⟩
  have c1 := insmall_any w4.heap.size _ _ w5 hR5
  rw [show rdN 2 (some [2, 1, 254, 255, 255, 255, 255, 255, 255, 255, 2, 0, 97, 98, 1]) = 258 from by decide +kernel, show rdS 2 (some [2, 1, 254, 255, 255, 255, 255, 255, 255, 255, 2, 0, 97, 98, 1]) = some [254, 255, 255, 255, 255, 255, 255, 255, 2, 0, 97, 98, 1] from rfl] at c1
  go_wp2_with fail
  refine c1.mono ?_
  clear c1
  rintro e w6 ⟨rfl, hR6, hk6⟩
  have c1 := inlong_any w4.heap.size _ _ w6 hR6
  rw [show wrap64 (rdN 8 (some [254, 255, 255, 255, 255, 255, 255, 255, 2, 0, 97, 98, 1]) : Nat) = -2 from by decide +kernel, show rdS 8 (some [254, 255, 255, 255, 255, 255, 255, 255, 2, 0, 97, 98, 1]) = some [2, 0, 97, 98, 1] from rfl] at c1
  go_wp2_with fail
  refine c1.mono ?_
  clear c1
  rintro e w7 ⟨rfl, hR7, hk7⟩
  have c1 := intext_any w4.heap.size _ _ w7 hR7
  rw [show rdT (some [2, 0, 97, 98, 1]) = [97, 98] from by decide +kernel, show rdTs (some [2, 0, 97, 98, 1]) = some [1] from by decide +kernel] at c1
  go_wp2_with fail
  refine c1.mono ?_
  clear c1
  rintro e w8 ⟨rfl, hR8, hk8⟩
  have c1 := intruth_any w4.heap.size _ _ w8 hR8
  rw [show rdN 1 (some [1]) = 1 from by decide +kernel, show rdTr (some [1]) = some [] from by decide +kernel] at c1
  go_wp2_with fail
  refine c1.mono ?_
  clear c1
  rintro e w9 ⟨rfl, hR9, hk9⟩
  have hk49 : Keep NoF w4 w9 := hk5.trans (((hk6.trans' hk7).trans' hk8).trans' hk9) (fun _ _ f => f) (fun i hi f => by subst f; exact absurd hi (Nat.lt_irrefl _))
  have hcB9 := hk49.cell' hcB (fun f => f)
  have hb09 := hk49.cell' hb0 (fun f => f)
  have hb19 := hk49.cell' hb1 (fun f => f)
  have hbs : bstr [97, 98] = ⟨#[97, 98]⟩ := rfl
  have c1 := inend_any w4.heap.size _ _ w9 hR9
  have c2 := inleft_any w4.heap.size _ _ w9 hR9
  have c3 := inbad_any w4.heap.size _ _ w9 hR9
  have c4 := insmall_any w4.heap.size _ _ w9 hR9
  rw [show ((rdN 2 (some ([] : List UInt8)) : Nat) : Int) = 0 from rfl, show rdS 2 (some ([] : List UInt8)) = none from rfl] at c4
  rw [show endOf (some ([] : List UInt8)) = true from rfl] at c1
  rw [show ((leftOf (some ([] : List UInt8)) : Nat) : Int) = 0 from rfl] at c2
  rw [show (some ([] : List UInt8)).isNone = false from rfl] at c3
  have C1 := Lib.hid c1; have C2 := Lib.hid c2; have C3 := Lib.hid c3; have C4 := Lib.hid c4
  clear c1 c2 c3 c4 hcB hb0 hb1 hk5 hk6 hk7 hk8 hk9 hR5 hR6 hR7 hR8
  go_wp2_with fail
  refine C1.out.mono ?_
  rintro e w' ⟨rfl, rfl⟩
  go_wp2_with fail
  refine C2.out.mono ?_
  rintro e w' ⟨rfl, rfl⟩
  go_wp2_with fail
  refine C3.out.mono ?_
  rintro e w' ⟨rfl, rfl⟩
  go_wp2_with fail
  refine C4.out.mono ?_
  rintro e w10 ⟨rfl, hR10, hk10⟩
  have hk410 : Keep NoF w4 w10 := hk49.trans hk10 (fun _ _ f => f) (fun i hi f => by subst f; exact absurd hi (Nat.lt_irrefl _))
  have c1 := inbad_any w4.heap.size _ _ w10 hR10
  rw [show (none : Option (List UInt8)).isNone = true from rfl] at c1
  clear hcB9 hb09 hb19 C1 C2 C3 C4 hR9 hR10 hk10
  have C1 := Lib.hid c1; clear c1
  go_wp2_with fail
  refine C1.out.mono ?_
  rintro e w' ⟨rfl, rfl⟩
  clear C1
  have kc := Lib.run_convert_bytes_const (P := Tryz.prog) w10 26 5 (bvs [49, 50, 51, 52, 53, 54, 55, 56, 57]).toArray 9 9 Tryz.underlying26 Tryz.underlying5
  simp only [bvs, bval, List.map_cons, List.map_nil, UInt8.toNat_ofNat, List.size_toArray, List.length_cons, List.length_nil, Nat.reduceMod, Nat.reducePow, Nat.reduceAdd, Int.cast_ofNat_Int] at kc
  go_wp2_with fail
  have hs9 := SlB.new w10 [49, 50, 51, 52, 53, 54, 55, 56, 57] 5 (9, 10) (by decide)
  have c1 := of_any _ _ _ _ hs9
  rw [show crcOf [49, 50, 51, 52, 53, 54, 55, 56, 57] = 3808858755 from by decide +kernel] at c1
  refine c1.mono ?_
  clear c1
  rintro e w' ⟨rfl, rfl⟩
  go_wp2_with fail
  go_ret
  exact ⟨rfl, (hk04.trans' hk410).alloc _⟩
end Go.Proofs.YtdbgplnjppaimaaGreat
