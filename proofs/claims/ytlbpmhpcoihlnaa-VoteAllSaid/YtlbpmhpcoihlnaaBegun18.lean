/- The statements' own opening check returns true; ballots that are none. -/
import Derived.Test.YtlbpmhpcoihlnaaVoteI3
import Derived.Test.YtlbpmhpcoihlnaaVoteS3
open Go Go.Proofs Go.RowKit Go.Maps Go.Sort Go.Shelf
namespace Go.Proofs.Ytlbpmhpcoihlnaa

theorem missD_nil {ks : List Int} {yes : Int → Bool} {ns : List Int} : missD ks yes ns = [] ↔ ∀ x ∈ ks, votedB ks yes ns x = true := by
  simp [missD, List.filter_eq_nil_iff, mem_sortD]
theorem missDS_nil {ks : List (List UInt8)} {yes : List UInt8 → Bool} {ns : List (List UInt8)} : missDS ks yes ns = [] ↔ ∀ x ∈ ks, votedBS ks yes ns x = true := by
  simp [missDS, List.filter_eq_nil_iff, mem_sortDS]
theorem how0S {ks : List (List UInt8)} {yes : List UInt8 → Bool} {x : List UInt8} (h : x ∈ ks) (hx : yes x = false) : howDS ks yes [] = 0 := by
  unfold howDS
  rw [if_pos rfl, if_neg]
  intro e
  have := missDS_nil.1 e x h
  simp [votedBS, hx, memB] at this
theorem how1S {ks : List (List UInt8)} {yes : List UInt8 → Bool} (h : ∀ x ∈ ks, yes x = true) : howDS ks yes [] = 1 := by
  unfold howDS
  rw [if_pos rfl, if_pos]
  exact missDS_nil.2 fun x hx => by simp [votedBS, memB_yes hx, h x hx]
theorem how2S {ks : List (List UInt8)} {yes : List UInt8 → Bool} {x : List UInt8} {l : List (List UInt8)} : howDS ks yes (x :: l) = 2 := by
  unfold howDS
  rw [if_neg (by simp)]
theorem len_sortDS {ks l : List (List UInt8)} (hl : l.Nodup) (h : ∀ x, x ∈ ks ↔ x ∈ l) : (sortDS ks).length = l.length := by
  have hp : (sortDS ks).Perm l := by
    refine (List.perm_ext_iff_of_nodup ?_ hl).2 fun x => by rw [mem_sortDS, h]
    exact (List.mergeSort_perm _ _).nodup_iff.2 (nodup_ddupS ks)
  exact hp.length_eq
theorem len_sortD {ks l : List Int} (hl : l.Nodup) (h : ∀ x, x ∈ ks ↔ x ∈ l) : (sortD ks).length = l.length := by
  have hp : (sortD ks).Perm l := by
    refine (List.perm_ext_iff_of_nodup ?_ hl).2 fun x => by rw [mem_sortD, h]
    exact (List.mergeSort_perm _ _).nodup_iff.2 (nodup_ddup ks)
  exact hp.length_eq
theorem abc_at (w : World) : SlIS (w.alloc (.cells #[.string ⟨#[97]⟩, .string ⟨#[98]⟩, .string ⟨#[97]⟩] 9)) (some ⟨w.heap.size, 0, none⟩) 3 [[97], [98], [97]] := by
  refine ⟨by decide, by decide, by decide, fun i hi => ⟨_, _, rfl, ?_⟩⟩
  rw [cell_of_heap (heap_new _ _)]
  match i, hi with
  | 0, _ => rfl
  | 1, _ => rfl
  | 2, _ => rfl
theorem nilI (w : World) : SlI w none 0 [] := ⟨Nat.le_refl _, by decide, by simp, by simp⟩

set_option maxHeartbeats 2000000 in
theorem begun18_any (w : World) : Calls Try.prog 8 #[] w fun e w' => e = .returned (.bool true) ∧ Keep NoF w w' := by
  go_enter Try.func8, Try.ntmps8
  go_wp2_with fail
  have ka : Keep NoF w (w.alloc (.cells #[.string ⟨#[97]⟩, .string ⟨#[98]⟩, .string ⟨#[97]⟩] 9)) := (Keep.refl NoF w).alloc _
  refine (new_anyS _ 3 [[97], [98], [97]] 3 rfl _ (abc_at w) (by decide)).mono ?_
  rintro e w1 ⟨p, by_, bn, ks, rfl, hB, hmem, hk, hp, hb, hn⟩
  have hsz := ka.size
  have HB := Lib.hid hB; have K1 := Lib.hid (ka.trans' hk)
  have HF : Hid (w.heap.size ≤ by_ ∧ w.heap.size ≤ bn) := Lib.hid ⟨by omega, by omega⟩
  have ha : [97] ∈ ks := (hmem _).2 (by simp)
  have hbb : [98] ∈ ks := (hmem _).2 (by simp)
  have hc : [99] ∉ ks := fun e => by have := (hmem _).1 e; simp at this
  have hall : ∀ x ∈ ks, x = [97] ∨ x = [98] := fun x hx => by have := (hmem x).1 hx; simpa [or_comm, or_assoc] using this
  have hln : (sortDS ks).length = 2 := len_sortDS (l := [[97], [98]]) (by decide) (fun x => by rw [hmem]; simp [or_comm])
  have y1 : yesVS ks (fun _ => false) [] [97] true = fun z => if z = [97] then true else false := if_pos ⟨ha, rfl, by simp⟩
  have n1 : noVS ks [] [97] true = [] := noV_noS (by simp)
  have y2 : yesVS ks (fun z => if z = [97] then true else false) [] [99] false = fun z => if z = [97] then true else false := yesV_noS (by simp)
  have n2 : noVS ks [] [99] false = [] := noV_noS (by simp [hc])
  have y3 : yesVS ks (fun z => if z = [97] then true else false) [] [98] true = fun z => if z = [98] then true else if z = [97] then true else false := if_pos ⟨hbb, rfl, by simp⟩
  have n3 : noVS ks [] [98] true = [] := noV_noS (by simp)
  have n4 : noVS ks [] [97] false = [[97]] := if_pos ⟨ha, rfl⟩
  have v1 : howDS ks (fun z => if z = [97] then true else false) [] = 0 := how0S hbb (by simp)
  have v3 : howDS ks (fun z => if z = [98] then true else if z = [97] then true else false) [] = 1 := how1S fun x hx => by rcases hall x hx with rfl | rfl <;> simp
  have V := fun n hnn W h => vote_anyS p by_ bn n ks (fun _ => false) [] [97] (by decide) true W h hnn
  rw [y1, n1, v1] at V
  have V1 := Lib.hid V
  have V := fun n hnn W h => vote_anyS p by_ bn n ks (fun z => if z = [97] then true else false) [] [99] (by decide) false W h hnn
  rw [y2, n2, v1] at V
  have V2 := Lib.hid V
  have V := fun n hnn W h => vote_anyS p by_ bn n ks (fun z => if z = [97] then true else false) [] [98] (by decide) true W h hnn
  rw [y3, n3, v3] at V
  have V3 := Lib.hid V
  have V := fun n hnn W h => vote_anyS p by_ bn n ks (fun z => if z = [98] then true else if z = [97] then true else false) [] [97] (by decide) false W h hnn
  rw [n4, how2S] at V
  have V4 := Lib.hid V
  generalize yesVS ks (fun z => if z = [98] then true else if z = [97] then true else false) [] [97] false = y4 at V4
  generalize (fun z => if z = [98] then true else if z = [97] then true else false : List UInt8 → Bool) = yc at V3 V4
  generalize (fun z => if z = [97] then true else false : List UInt8 → Bool) = ya at V1 V2 V3
  have VT := fun W h => voters_anyS p by_ bn 1004 ks y4 [[97]] W h (by decide)
  rw [hln] at VT
  have HVT := Lib.hid VT
  clear V VT hB hmem hk hp hb hn ha hbb hc hall hln y1 n1 y2 n2 y3 n3 n4 v1 v3 ka hsz
  go_wp2_with fail
  refine (V1.out 1000 (by decide) w1 HB.out).mono ?_
  rintro e w2 ⟨rfl, h2, k2⟩
  have HB2 := Lib.hid h2; have K2 := Lib.hid (K1.out.trans k2 (fun _ _ f => f) (fun i hi f => by have := HF.out; rcases f with f | f <;> omega))
  clear h2 k2
  go_wp2_with fail
  refine (V2.out 1001 (by decide) w2 HB2.out).mono ?_
  rintro e w3 ⟨rfl, h2, k2⟩
  have HB3 := Lib.hid h2; have K3 := Lib.hid (K2.out.trans k2 (fun _ _ f => f) (fun i hi f => by have := HF.out; rcases f with f | f <;> omega))
  clear h2 k2
  go_wp2_with fail
  refine (V3.out 1002 (by decide) w3 HB3.out).mono ?_
  rintro e w4 ⟨rfl, h2, k2⟩
  have HB4 := Lib.hid h2; have K4 := Lib.hid (K3.out.trans k2 (fun _ _ f => f) (fun i hi f => by have := HF.out; rcases f with f | f <;> omega))
  clear h2 k2
  go_wp2_with fail
  refine (V4.out 1003 (by decide) w4 HB4.out).mono ?_
  rintro e w5 ⟨rfl, h2, k2⟩
  have HB5 := Lib.hid h2; have K5 := Lib.hid (K4.out.trans k2 (fun _ _ f => f) (fun i hi f => by have := HF.out; rcases f with f | f <;> omega))
  clear h2 k2
  go_wp2_with fail
  refine (HVT.out w5 HB5.out).mono ?_
  rintro e w6 ⟨v, rfl, hrow, hnil, hk6⟩
  have K6 := Lib.hid (K5.out.trans' hk6)
  rcases hrow.2 with ⟨_, he⟩ | ⟨g, cap, cur, rfl, _⟩
  · simp at he
  clear hrow hnil hk6
  go_wp2_with fail
  refine (new_any none 0 [] 0 rfl w6 (nilI _) (by decide)).mono ?_
  rintro e w7 ⟨p2, by2, bn2, ks2, rfl, hB2, hmem2, hk7, _, _, _⟩
  have K7 := Lib.hid (K6.out.trans' hk7)
  have hks2 : ks2 = [] := by
    cases ks2 with
    | nil => rfl
    | cons x l => have := (hmem2 x).1 (by simp); simp at this
  subst hks2
  have hh := how_any p2 by2 bn2 1000 [] (fun _ => false) [] w7 hB2 (by decide)
  have e0 : howD [] (fun _ => false) [] = 1 := by
    unfold howD
    rw [if_pos rfl, if_pos (missD_nil.2 (by simp))]
  rw [e0] at hh
  have HH := Lib.hid hh
  clear hB2 hmem2 hk7 hh e0
  go_wp2_with fail
  refine HH.out.mono ?_
  rintro e w8 ⟨rfl, hk8⟩
  have K8 := Lib.hid (K7.out.trans' hk8)
  clear hk8
  go_wp2_with fail
  go_ret
  exact ⟨rfl, K8.out⟩
theorem vote_nil (who : Int) (y : Bool) (w : World) : Calls Try.prog 14 #[.pointer none, .int .i64 who, .bool y] w fun e w' => e = .returned (.int .i64 2) ∧ w' = w := by
  go_enter Try.func14, Try.ntmps14
  go_wp2_with fail
  go_ret
  exact ⟨rfl, rfl⟩
theorem how_nil (w : World) : Calls Try.prog 10 #[.pointer none] w fun e w' => e = .returned (.int .i64 2) ∧ w' = w := by
  go_enter Try.func10, Try.ntmps10
  go_wp2_with fail
  go_ret
  exact ⟨rfl, rfl⟩
theorem voters_nil (w : World) : Calls Try.prog 13 #[.pointer none] w fun e w' => e = .returned (.slice none 0 0) ∧ w' = w := by
  go_enter Try.func13, Try.ntmps13
  go_wp2_with fail
  go_ret
  exact ⟨rfl, rfl⟩
theorem missing_nil (w : World) : Calls Try.prog 12 #[.pointer none] w fun e w' => e = .returned (.slice none 0 0) ∧ Keep NoF w w' := by
  go_enter Try.func12, Try.ntmps12
  go_wp2_with fail
  have ka : Keep NoF w (w.alloc (.cells #[.pointer none] 25)) := (Keep.refl NoF w).alloc _
  have KA := Lib.hid ka
  clear ka
  refine (voters_nil _).mono ?_
  rintro e w1 ⟨rfl, rfl⟩
  go_wp2_with fail
  refine (delnil _ _).mono ?_
  rintro e w1 ⟨rfl, rfl⟩
  go_wp2_with fail
  go_ret
  exact ⟨rfl, KA.out⟩
end Go.Proofs.Ytlbpmhpcoihlnaa
