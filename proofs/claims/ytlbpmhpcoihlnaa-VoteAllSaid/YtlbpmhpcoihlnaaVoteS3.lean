/- A ballot of texts: New, How, Vote. -/
import Derived.Test.YtlbpmhpcoihlnaaVoteS2
open Go Go.Proofs Go.RowKit Go.Maps Go.Sort Go.Shelf
namespace Go.Proofs.Ytlbpmhpcoihlnaa

def howDS (ks : List (List UInt8)) (yes : List UInt8 → Bool) (ns : List (List UInt8)) : Int := if ns = [] then (if missDS ks yes ns = [] then 1 else 0) else 2
set_option maxHeartbeats 1000000 in
theorem how_anyS (p by_ bn n : Nat) (ks : List (List UInt8)) (yes : List UInt8 → Bool) (ns : List (List UInt8)) (w : World) (h : BalIS w p by_ bn n ks yes ns) (hn : n ≤ 10000) :
    Calls Try.prog 17 #[.pointer (some ⟨p, 0, none⟩)] w fun e w' => e = .returned (.int .i64 (howDS ks yes ns)) ∧ Keep NoF w w' := by
  have c1 := cell_of_heap h.row 1
  simp at c1
  obtain ⟨s, hs, hs0⟩ := h.nm.size Try.underlying54 3
  have H := Lib.hid h
  clear h
  by_cases hz : ns = []
  · have hs2 : s = 0 := hs0.2 hz
    subst hs2
    obtain ⟨m, hm⟩ : ∃ m, missDS ks yes ns = m := ⟨_, rfl⟩
    have hmi := missing_anyS p by_ bn n ks yes ns w H.out hn
    rw [hm] at hmi
    have HMI := Lib.hid hmi
    have hh : howDS ks yes ns = if m = [] then 1 else 0 := by rw [howDS, if_pos hz, hm]
    have HH := Lib.hid hh
    clear hs0 hmi hm hh hz
    go_enter Try.func17, Try.ntmps17
    go_wp2_with fail
    refine HMI.out.mono ?_
    rintro e w1 ⟨v, rfl, hrow, hk, hf⟩
    have K1 := Lib.hid hk
    cases m with
    | nil =>
      rcases hrow.2 with ⟨rfl, _⟩ | ⟨g, cap, cur, rfl, _⟩
      all_goals
        clear hrow hk hf
        go_wp2_with fail
        go_ret
        exact ⟨by rw [HH.out]; rfl, K1.out⟩
    | cons x l =>
      rcases hrow.2 with ⟨_, he⟩ | ⟨g, cap, cur, rfl, _⟩
      · simp at he
      · have hl : (((x :: l).length : Nat) : Int) ≠ 0 := by simp; omega
        have hl2 : ((((x :: l).length : Nat) : Int) == 0) = false := by simp; omega
        generalize (x :: l).length = L at hl hl2 ⊢
        clear hrow hk hf hl
        go_wp2_with fail
        go_ret
        exact ⟨by rw [HH.out]; rfl, K1.out⟩
  · have hs2 : 0 < s := by rcases Nat.eq_zero_or_pos s with h | h; exact absurd (hs0.1 h) hz; exact h
    have hh : howDS ks yes ns = 2 := by rw [howDS, if_neg hz]
    have HH := Lib.hid hh
    clear hs0 hh hz
    go_enter Try.func17, Try.ntmps17
    go_wp2_with fail
    go_ret
    exact ⟨by rw [HH.out]; rfl, Keep.refl _ _⟩
/-- Slices of texts that can be read. -/
def SlIS (w : World) (ao : Option Addr) (cp : Nat) (l : List (List UInt8)) : Prop :=
  l.length ≤ cp ∧ cp ≤ maxLen ∧ (∀ x ∈ l, x.length ≤ maxLen) ∧ ∀ i (h : i < l.length), ∃ g off, ao = some ⟨g, off, none⟩ ∧ w.cell? ⟨g, off + i, none⟩ = some (encStr l[i])
theorem SlIS.keep {F : Nat → Prop} {w w' : World} {ao : Option Addr} {cp : Nat} {l : List (List UInt8)} (h : SlIS w ao cp l) (hk : Keep F w w') (hn : ∀ a, ao = some a → ¬ F a.block) : SlIS w' ao cp l := by
  refine ⟨h.1, h.2.1, h.2.2.1, fun i hi => ?_⟩
  obtain ⟨g, off, rfl, hc⟩ := h.2.2.2 i hi
  exact ⟨g, off, rfl, hk.cell' hc (hn ⟨g, off, none⟩ rfl)⟩
theorem MapB.allocS' {w : World} {b n : Nat} {ks : List (List UInt8)} {f : List UInt8 → Bool} (h : MapB KIS w b n ks f) (o : Obj) : MapB KIS (w.alloc o) b n ks f := h.kept (World.grownBy_alloc w o none) (by simp)
theorem BalIS.start (w : World) : BalIS (((w.alloc (.map #[] 0)).alloc (.map #[] 0)).alloc (.cells #[.map (some w.heap.size), .map (some (w.heap.size + 1))] 56)) (w.heap.size + 2) w.heap.size (w.heap.size + 1) 0 [] (fun _ => false) [] := by
  have h1 := MapB.allocS' (MapB.allocS' (MapB.made KIS w) (.map #[] 0)) (.cells #[.map (some w.heap.size), .map (some (w.heap.size + 1))] 56)
  have h2 := MapB.allocS' (MapB.made KIS (w.alloc (.map #[] 0))) (.cells #[.map (some w.heap.size), .map (some (w.heap.size + 1))] 56)
  have e2 : (w.alloc (.map #[] 0)).heap.size = w.heap.size + 1 := by simp
  rw [e2] at h2
  have h3 := heap_new ((w.alloc (.map #[] 0)).alloc (.map #[] 0)) (.cells #[.map (some w.heap.size), .map (some (w.heap.size + 1))] 56)
  have e3 : ((w.alloc (.map #[] 0)).alloc (.map #[] 0)).heap.size = w.heap.size + 2 := by simp
  rw [e3] at h3
  exact ⟨h3, h1, h2.congr (fun _ => Iff.rfl) (by simp), by omega⟩
theorem BalIS.put {w w2 : World} {p by_ bn n : Nat} {ks : List (List UInt8)} {ns : List (List UInt8)} {x : List UInt8} (h : BalIS w p by_ bn n ks (fun _ => false) ns) (hm : MapB KIS w2 by_ (n + 1) (x :: ks) (fun z => if z = x then false else false)) (hg : w.grownBy w2 (some by_)) :
    BalIS w2 p by_ bn (n + 1) (x :: ks) (fun _ => false) ns := by
  refine ⟨?_, hm.congr (fun _ => Iff.rfl) (fun z _ => by simp), (h.nm.kept hg (by simp; exact fun e => h.ne.1 e.symm)).mono (Nat.le_succ n), h.ne⟩
  rw [hg.block p (lt_of_heap h.row) (by simp; exact h.ne.2.1)]
  exact h.row
theorem BalIS.mono {w : World} {p by_ bn n n' : Nat} {ks : List (List UInt8)} {yes : List UInt8 → Bool} {ns : List (List UInt8)} (h : BalIS w p by_ bn n ks yes ns) (hn : n ≤ n') : BalIS w p by_ bn n' ks yes ns := ⟨h.row, h.ym.mono hn, h.nm.mono hn, h.ne⟩
def NewPostS (w : World) (l : List (List UInt8)) (e : Ending) (w' : World) : Prop :=
  ∃ (p by_ bn : Nat) (ks : List (List UInt8)), e = .returned (.pointer (some ⟨p, 0, none⟩)) ∧ BalIS w' p by_ bn 1000 ks (fun _ => false) [] ∧ (∀ x, x ∈ ks ↔ x ∈ l) ∧ Keep NoF w w' ∧ w.heap.size ≤ p ∧ w.heap.size ≤ by_ ∧ w.heap.size ≤ bn
set_option maxHeartbeats 1000000 in
theorem new_anyS (ao : Option Addr) (cp : Nat) (l : List (List UInt8)) (m : Nat) (hm : l.length = m) (w : World) (h : SlIS w ao cp l) (hl : m ≤ 1000) :
    Calls Try.prog 15 #[.slice ao m cp] w (NewPostS w l) := by
  have H := Lib.hid h
  have HM := Lib.hid hm
  have hcp := h.1
  have hcp2 := h.2.1
  rw [hm] at hcp
  unfold maxLen at hcp2
  have hmm := @run_makeMap Try.prog
  have HS := Lib.hid (BalIS.start w)
  have hk := (((Keep.refl NoF w).alloc (.map #[] 0)).alloc (.map #[] 0)).alloc (.cells #[.map (some w.heap.size), .map (some (w.heap.size + 1))] 56)
  have HK := Lib.hid hk
  clear h hm hk
  go_enter Try.func15, Try.ntmps15
  go_wp2_with fail
  go_loopw [12] (fun iv wr => ∃ (j : Nat) (ks : List (List UInt8)), j ≤ m ∧ iv = .int .i64 j ∧ BalIS wr (w.heap.size + 2) w.heap.size (w.heap.size + 1) j ks (fun _ => false) [] ∧ (∀ x, x ∈ ks ↔ x ∈ l.take j) ∧ Keep NoF w wr) (fun iv _ => m - (intOf iv).toNat)
  case atStart => exact ⟨0, [], Nat.zero_le _, rfl, HS.out, by simp, HK.out⟩
  case round =>
    obtain ⟨j, ks, hj, rfl, hB, hmem, hkw⟩ := hrel
    clear HS HK
    have HB := Lib.hid hB; have HME := Lib.hid hmem; have HKW := Lib.hid hkw
    by_cases hlt : j < m
    · have hlt2 : (j : Int) < m := by omega
      have hjl : j < l.length := by have := HM.out; omega
      obtain ⟨g, off, rfl, hc⟩ := (H.out.keep hkw (fun _ _ f => f)).2.2.2 j hjl
      have c0 := cell_of_heap hB.row 0
      simp at c0
      obtain ⟨x, hx⟩ : ∃ x, l[j] = x := ⟨_, rfl⟩
      have hwf : x.length ≤ maxLen := by rw [← hx]; exact H.out.2.2.1 _ (List.getElem_mem hjl)
      have htk : l.take (j + 1) = l.take j ++ [x] := by rw [List.take_succ_eq_append_getElem hjl, hx]
      rw [hx] at hc
      have HTK := Lib.hid htk; have HWF := Lib.hid hwf
      clear hB hmem hkw hx hwf htk
      go_wp2_with (at_mapUpdate; refine HB.out.ym.wpPut Try.underlying54 (by unfold maxLen; omega) HWF.out false rfl rfl rfl rfl rfl ?_; intro w2 hM hg2)
      have hB2 := HB.out.put hM hg2
      have hK2 := HKW.out.grown hg2 (fun k hk e => by injection e with e; omega)
      have HB2 := Lib.hid hB2; have HK2 := Lib.hid hK2
      clear hM hg2 hB2 hK2 c0 hc
      go_wp2_with fail
      go_roundw
      case rel => exact ⟨j + 1, x :: ks, by omega, by go_num, HB2.out, fun z => by rw [HTK.out, List.mem_cons, HME.out z, List.mem_append, List.mem_singleton, or_comm], HK2.out⟩
      case measure => simp [intOf]; omega
    · have hlt2 : ¬ (j : Int) < m := by omega
      clear hB hmem hkw
      go_wp2_with fail
      go_ret
      refine ⟨w.heap.size + 2, w.heap.size, w.heap.size + 1, ks, rfl, HB.out.mono (by omega), fun x => ?_, HKW.out, by omega, by omega, by omega⟩
      rw [HME.out x, List.take_of_length_le (by have := HM.out; omega)]

/-- A vote's turn of the two maps. -/
def yesVS (ks : List (List UInt8)) (yes : List UInt8 → Bool) (ns : List (List UInt8)) (who : List UInt8) (y : Bool) : List UInt8 → Bool := if who ∈ ks ∧ y = true ∧ who ∉ ns then fun z => if z = who then true else yes z else yes
def noVS (ks : List (List UInt8)) (ns : List (List UInt8)) (who : List UInt8) (y : Bool) : List (List UInt8) := if who ∈ ks ∧ y = false then who :: ns else ns
/-- What Vote may touch. -/
def VFS (by_ bn : Nat) : Nat → Prop := fun k => k = by_ ∨ k = bn
theorem yesV_noS {ks : List (List UInt8)} {yes : List UInt8 → Bool} {ns : List (List UInt8)} {who : List UInt8} {y : Bool} (h : ¬ (who ∈ ks ∧ y = true ∧ who ∉ ns)) : yesVS ks yes ns who y = yes := if_neg h
theorem noV_noS {ks : List (List UInt8)} {ns : List (List UInt8)} {who : List UInt8} {y : Bool} (h : ¬ (who ∈ ks ∧ y = false)) : noVS ks ns who y = ns := if_neg h
set_option maxHeartbeats 2000000 in
theorem vote_anyS (p by_ bn n : Nat) (ks : List (List UInt8)) (yes : List UInt8 → Bool) (ns : List (List UInt8)) (who : List UInt8) (hw : who.length ≤ maxLen) (y : Bool) (w : World) (h : BalIS w p by_ bn n ks yes ns) (hn : n ≤ 9000) :
    Calls Try.prog 16 #[.pointer (some ⟨p, 0, none⟩), encStr who, .bool y] w fun e w' =>
      e = .returned (.int .i64 (howDS ks (yesVS ks yes ns who y) (noVS ks ns who y))) ∧ BalIS w' p by_ bn (n + 1) ks (yesVS ks yes ns who y) (noVS ks ns who y) ∧ Keep (VFS by_ bn) w w' := by
  have c0 := cell_of_heap h.row 0
  have c1 := cell_of_heap h.row 1
  simp at c0 c1
  have H := Lib.hid h; have HW := Lib.hid hw
  have l1 := h.ym.look_ok Try.underlying54 hw
  have l2 := h.nm.look Try.underlying54 hw
  rw [Bool.and_true] at l2
  generalize hb1 : (memB who ks && yes who) = b1 at l1
  clear hb1 h
  have kl : Keep (VFS by_ bn) w w := Keep.refl _ _
  have fin : ∀ (W : World) (yes' : List UInt8 → Bool) (ns' : List (List UInt8)), BalIS W p by_ bn (n + 1) ks yes' ns' → Keep (VFS by_ bn) w W → Calls Try.prog 17 #[.pointer (some ⟨p, 0, none⟩)] W fun e w' => e = .returned (.int .i64 (howDS ks yes' ns')) ∧ BalIS w' p by_ bn (n + 1) ks yes' ns' ∧ Keep (VFS by_ bn) w w' :=
    fun W yes' ns' hB hk => (how_anyS p by_ bn (n + 1) ks yes' ns' W hB (by omega)).mono fun e w' ⟨h1, h2⟩ => ⟨h1, hB.keep h2, hk.trans h2 (fun _ _ f => f) (fun _ _ f => f.elim)⟩
  have FIN := Lib.hid fin
  clear fin kl
  by_cases hin : who ∈ ks
  · have hd : memB who ks = true := memB_yes hin
    rw [hd] at l1
    cases y
    · -- a no
      have hyv : yesVS ks yes ns who false = yes := yesV_noS (by simp)
      have hnv : noVS ks ns who false = who :: ns := if_pos ⟨hin, rfl⟩
      rw [hyv, hnv]
      clear hyv hnv hd l2
      go_enter Try.func16, Try.ntmps16
      go_wp2_with (at_mapUpdate; refine H.out.nm.wpPut Try.underlying54 (by unfold maxLen; omega) HW.out true rfl rfl rfl rfl rfl ?_; intro w2 hM hg)
      have hB : BalIS w2 p by_ bn (n + 1) ks yes (who :: ns) := by
        refine ⟨?_, (H.out.ym.kept hg (by simp; exact H.out.ne.1)).mono (Nat.le_succ n), hM.congr (fun _ => Iff.rfl) (fun z _ => by simp), H.out.ne⟩
        rw [hg.block p (lt_of_heap H.out.row) (by simp; exact H.out.ne.2.2)]; exact H.out.row
      have hk : Keep (VFS by_ bn) w w2 := (Keep.refl _ w).grown hg (fun k _ e => by injection e with e; exact .inr e.symm)
      have HF := Lib.hid (FIN.out w2 yes (who :: ns) hB hk)
      clear hM hg hB hk c0 c1 l1
      go_wp2_with fail
      refine HF.out.mono ?_
      rintro e w3 ⟨rfl, h2, h3⟩
      go_wp2_with fail
      go_ret
      exact ⟨rfl, h2, h3⟩
    · have hnv : noVS ks ns who true = ns := noV_noS (by simp)
      rw [hnv]
      by_cases hno : who ∈ ns
      · have hd2 : memB who ns = true := memB_yes hno
        rw [hd2] at l2
        have hyv : yesVS ks yes ns who true = yes := yesV_noS (by simp [hno])
        rw [hyv]
        have HF := Lib.hid (FIN.out w yes ns (H.out.mono (Nat.le_succ n)) (Keep.refl _ _))
        clear hyv hnv hd hd2
        go_enter Try.func16, Try.ntmps16
        go_wp2_with fail
        refine HF.out.mono ?_
        rintro e w3 ⟨rfl, h2, h3⟩
        go_wp2_with fail
        go_ret
        exact ⟨rfl, h2, h3⟩
      · have hd2 : memB who ns = false := memB_no hno
        rw [hd2] at l2
        have hyv : yesVS ks yes ns who true = fun z => if z = who then true else yes z := if_pos ⟨hin, rfl, hno⟩
        rw [hyv]
        generalize hyf : (fun z => if z = who then true else yes z) = yf
        have HYF := Lib.hid hyf
        clear hyv hnv hd hd2 hyf
        go_enter Try.func16, Try.ntmps16
        go_wp2_with (at_mapUpdate; refine H.out.ym.wpPut Try.underlying54 (by unfold maxLen; omega) HW.out true rfl rfl rfl rfl rfl ?_; intro w2 hM hg)
        have hB : BalIS w2 p by_ bn (n + 1) ks yf ns := by
          refine ⟨?_, hM.congr (fun z => by rw [List.mem_cons]; exact ⟨.inr, fun e => e.elim (fun e => e ▸ hin) id⟩) (fun _ _ => by rw [← HYF.out]), (H.out.nm.kept hg (by simp; exact fun e => H.out.ne.1 e.symm)).mono (Nat.le_succ n), H.out.ne⟩
          rw [hg.block p (lt_of_heap H.out.row) (by simp; exact H.out.ne.2.1)]; exact H.out.row
        have hk : Keep (VFS by_ bn) w w2 := (Keep.refl _ w).grown hg (fun k _ e => by injection e with e; exact .inl e.symm)
        have HF := Lib.hid (FIN.out w2 _ ns hB hk)
        clear hM hg hB hk c0 c1 l1 l2
        go_wp2_with fail
        refine HF.out.mono ?_
        rintro e w3 ⟨rfl, h2, h3⟩
        go_wp2_with fail
        go_ret
        exact ⟨rfl, h2, h3⟩
  · have hd : memB who ks = false := memB_no hin
    rw [hd] at l1
    have hyv : yesVS ks yes ns who y = yes := yesV_noS (by simp [hin])
    have hnv : noVS ks ns who y = ns := noV_noS (by simp [hin])
    rw [hyv, hnv]
    have HF := Lib.hid (FIN.out w yes ns (H.out.mono (Nat.le_succ n)) (Keep.refl _ _))
    clear hyv hnv hd l2
    go_enter Try.func16, Try.ntmps16
    go_wp2_with fail
    refine HF.out.mono ?_
    rintro e w3 ⟨rfl, h2, h3⟩
    go_wp2_with fail
    go_ret
    exact ⟨rfl, h2, h3⟩
end Go.Proofs.Ytlbpmhpcoihlnaa
