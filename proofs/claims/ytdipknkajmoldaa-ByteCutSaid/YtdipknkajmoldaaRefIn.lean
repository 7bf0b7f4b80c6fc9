/- The document's reader: what each of its methods does. -/
import Derived.Test.YtdipknkajmoldaaRound
open Go Go.RowKit
namespace Go.Proofs.Ytdipknkajmoldaa

/-- A reader at block p; its bytes lie in block g; st: what is left, none: it is bad. -/
def RInV (w : World) (p : Nat) (ao : Option Addr) (cp : Nat) (l : List UInt8) (bad : Bool) : Prop :=
  w.heap[p]? = some (.cells #[.slice ao l.length cp, .bool bad] 45 (0, 0)) ∧ SlB w ao cp l ∧ blockOf ao ≠ some p
def RInR (w : World) (p : Nat) (g : Option Nat) (st : Option (List UInt8)) : Prop :=
  ∃ ao cp l bad, RInV w p ao cp l bad ∧ blockOf ao = g ∧ stOf l bad = st
/-- A step of a reader. -/
def RInS (w : World) (p : Nat) (g : Option Nat) (st : Option (List UInt8)) (w' : World) : Prop := RInR w' p g st ∧ Keep (· = p) w w'

theorem RInR.keep {F : Nat → Prop} {w w' : World} {p : Nat} {g : Option Nat} {st : Option (List UInt8)} (h : RInR w p g st) (hk : Keep F w w') (hp : ¬ F p) (hn : ∀ k, g = some k → ¬ F k) : RInR w' p g st := by
  obtain ⟨ao, cp, l, bad, ⟨h1, h2, h3⟩, rfl, rfl⟩ := h
  exact ⟨ao, cp, l, bad, ⟨by rw [hk.block p (lt_of_heap h1) hp]; exact h1, h2.keep hk hn, h3⟩, rfl, rfl⟩

/-- Behind a reader's store to itself. -/
theorem RInV.cut {w : World} {p : Nat} {ao : Option Addr} {cp : Nat} {l : List UInt8} {bad : Bool} (h : RInV w p ao cp l bad) (n : Nat) (hn : n ≤ l.length) {m c : Nat} {a2 : Option Addr} (hm : m = l.length - n) (hc : c = cp - n) (ha : a2 = if cp = n then ao else ao.map (·.add n)) :
    RInS w p (blockOf ao) (stOf (l.drop n) bad) (w.setCell ⟨p, 0, none⟩ (.slice a2 m c)) := by
  subst hm hc ha
  obtain ⟨h1, h2, h3⟩ := h
  have hk : Keep (· = p) w (w.setCell ⟨p, 0, none⟩ (.slice (if cp = n then ao else ao.map (·.add n)) (l.length - n) (cp - n))) :=
    (Keep.refl (· = p) _).setCell (p := ⟨p, 0, none⟩) (fun _ => rfl) _
  refine ⟨⟨_, cp - n, l.drop n, bad, ⟨?_, (h2.drop n hn).keep hk ?_, ?_⟩, blockOf_cut _ _ _, rfl⟩, hk⟩
  · simp [World.setCell, Array.getElem?_modify, h1]
  · intro g hg; rw [blockOf_cut] at hg; intro e; subst e; exact h3 hg
  · rw [blockOf_cut]; exact h3

theorem RInV.spoil {w : World} {p : Nat} {ao : Option Addr} {cp : Nat} {l : List UInt8} {bad : Bool} (h : RInV w p ao cp l bad) :
    RInS w p (blockOf ao) none (w.setCell ⟨p, 1, none⟩ (.bool true)) := by
  obtain ⟨h1, h2, h3⟩ := h
  have hk : Keep (· = p) w (w.setCell ⟨p, 1, none⟩ (.bool true)) := (Keep.refl (· = p) _).setCell (p := ⟨p, 1, none⟩) (fun _ => rfl) _
  refine ⟨⟨ao, cp, l, true, ⟨?_, h2.keep hk (fun g hg e => by subst e; exact h3 hg), h3⟩, rfl, rfl⟩, hk⟩
  simp [World.setCell, Array.getElem?_modify, h1]

theorem RInS.trans {w w1 w2 : World} {p : Nat} {g : Option Nat} {st : Option (List UInt8)} (hk : Keep (· = p) w w1) (h : RInS w1 p g st w2) : RInS w p g st w2 :=
  ⟨h.1, hk.trans' h.2⟩


set_option maxHeartbeats 400000 in
theorem rtake_ok (p : Nat) (ao : Option Addr) (cp : Nat) (l : List UInt8) (n : Nat) (w : World) (hV : RInV w p ao cp l false) (hn : n ≤ l.length) :
    Calls Try.prog 50 #[.pointer (some ⟨p, 0, none⟩), .int .i64 n] w fun e w' =>
      e = .returned (.slice ao n cp) ∧ RInS w p (blockOf ao) (some (l.drop n)) w' := by
  have hc := cell_of_heap hV.1 0
  simp at hc
  have hc1 := cell_of_heap hV.1 1
  simp at hc1
  have hf := free_of_heap hV.1 0
  have hcap := hV.2.1.1
  have hmax := hV.2.1.2.1
  unfold maxLen at hmax
  have hn1 : (n : Int) ≤ l.length := by omega
  have hn2 : (n : Int) ≤ cp := by omega
  have hx := hV.cut n hn (m := l.length - n) (c := cp - n) rfl rfl rfl
  have Hx := Lib.hid hx; clear hx
  by_cases he : cp = n
  · rw [if_pos he] at Hx
    subst he
    go_enter Try.func50, Try.ntmps50
    go_wp2
    go_ret
    refine ⟨rfl, ?_⟩
    have e0 : l.length - cp = 0 := by omega
    have := Hx.out
    rw [e0, Nat.sub_self] at this
    exact this
  · rw [if_neg he] at Hx
    go_enter Try.func50, Try.ntmps50
    go_wp2
    go_ret
    exact ⟨rfl, Hx.out⟩

set_option maxHeartbeats 400000 in
theorem rtake_bad (p : Nat) (ao : Option Addr) (cp : Nat) (l : List UInt8) (bad : Bool) (n : Nat) (w : World) (hV : RInV w p ao cp l bad) (hn : bad = true ∨ l.length < n) :
    Calls Try.prog 50 #[.pointer (some ⟨p, 0, none⟩), .int .i64 n] w fun e w' =>
      e = .returned (.slice none 0 0) ∧ RInS w p (blockOf ao) none w' := by
  have hc := cell_of_heap hV.1 0
  simp at hc
  have hc1 := cell_of_heap hV.1 1
  simp at hc1
  have hf := free_of_heap hV.1 1
  have hx := hV.spoil
  have Hx := Lib.hid hx; clear hx
  cases bad with
  | true =>
    go_enter Try.func50, Try.ntmps50
    go_wp2
    go_ret
    exact ⟨rfl, Hx.out⟩
  | false =>
    have hn' : (l.length : Int) < n := by simp at hn; omega
    go_enter Try.func50, Try.ntmps50
    go_wp2
    go_ret
    exact ⟨rfl, Hx.out⟩

theorem rd_bad (l : List UInt8) (bad : Bool) (n : Nat) (hb : bad = true ∨ l.length < n) : rdN n (stOf l bad) = 0 ∧ rdS n (stOf l bad) = none := by
  rcases hb with h | h
  · subst h; exact ⟨rfl, rfl⟩
  · cases bad
    · simp only [stOf, rdN, rdS, Bool.false_eq_true, if_false]
      rw [if_neg (by omega), if_neg (by omega)]; exact ⟨rfl, rfl⟩
    · exact ⟨rfl, rfl⟩
theorem rd_good (l : List UInt8) (n : Nat) (hn : n ≤ l.length) : rdN n (stOf l false) = leNat (l.take n) ∧ rdS n (stOf l false) = some (l.drop n) := by
  simp only [stOf, rdN, rdS, Bool.false_eq_true, if_false]
  rw [if_pos hn, if_pos hn]; exact ⟨rfl, rfl⟩
theorem not_bad {l : List UInt8} {bad : Bool} {n : Nat} (hb : ¬ (bad = true ∨ l.length < n)) : bad = false ∧ n ≤ l.length := by
  cases bad
  · exact ⟨rfl, Nat.le_of_not_lt fun h => hb (.inr h)⟩
  · exact absurd (.inl rfl) hb

set_option maxHeartbeats 400000 in
theorem rsmall_any (p : Nat) (g : Option Nat) (st : Option (List UInt8)) (w : World) (hR : RInR w p g st) :
    Calls Try.prog 30 #[.pointer (some ⟨p, 0, none⟩)] w fun e w' =>
      e = .returned (.int .i64 (rdN 2 st)) ∧ RInS w p g (rdS 2 st) w' := by
  obtain ⟨ao, cp, l, bad, hV, rfl, rfl⟩ := hR
  by_cases hb : bad = true ∨ l.length < 2
  · obtain ⟨e1, e2⟩ := rd_bad l bad 2 hb
    rw [e1, e2]
    clear e1 e2
    have hnil := fun W => Lib.run_eql_slice_nil (P := Try.prog) W 25 5 none 0 0 0 0 Try.underlying25
    go_enter Try.func30, Try.ntmps30
    go_wp2_with (go_at_call 50; refine (rtake_bad p ao cp l bad 2 w hV hb).mono ?_; rintro e w' ⟨rfl, hs⟩)
    go_ret
    exact ⟨rfl, hs⟩
  · obtain ⟨rfl, hn⟩ := not_bad hb
    clear hb
    obtain ⟨e1, e2⟩ := rd_good l 2 hn
    rw [e1, e2]
    obtain ⟨g, off, rfl, hb0⟩ := hV.2.1.2.2 0 (by omega)
    obtain ⟨g', off', e, hb1⟩ := hV.2.1.2.2 1 (by omega)
    injection e with e; injection e with e3 e4; subst e3 e4
    have el : leNat (l.take 2) = (l[0]).toNat + 256 * (l[1]).toNat := by
      match l, hn with
      | x :: y :: l, _ => simp [leNat]
    rw [el]
    have x0 := (l[0]).toNat_lt
    have x1 := (l[1]).toNat_lt
    clear e1 e2 el
    have hcap := hV.2.1.1
    go_enter Try.func30, Try.ntmps30
    go_wp2_with fail
    refine (rtake_ok p _ cp l 2 w hV hn).mono ?_
    rintro e w' ⟨rfl, hs⟩
    have hb02 := hs.2.cell' hb0 (fun e => hV.2.2 (by simp only at e; rw [← e]; rfl))
    have hb12 := hs.2.cell' hb1 (fun e => hV.2.2 (by simp only at e; rw [← e]; rfl))
    simp [bval] at hb02 hb12
    have Hs := Lib.hid hs
    clear hs hb0 hb1 hV
    have hnil := Lib.run_eql_slice_nil (P := Try.prog) w' 25 5 (some ⟨g, off, none⟩) 2 cp 0 0 Try.underlying25
    go_wp2_with fail
    go_region
    go_wp2_with fail
    go_ret
    refine ⟨?_, Hs.out.1, Hs.out.2.drew⟩
    show Ending.returned (.int .i64 (((l[0]).toNat : Int) + 256 * ((l[1]).toNat : Int))) = _
    rw [Int.natCast_add, Int.natCast_mul]

theorem InS_r {w w' w2 : World} {p : Nat} {g g2 : Option Nat} {st : Option (List UInt8)} (hk : Keep (· = p) w w') (hg : g2 = g) (h : RInS w' p g2 st w2) : RInS w p g st w2 := by
  subst hg; exact ⟨h.1, hk.trans' h.2⟩
theorem RInV.same {w : World} {p : Nat} {ao : Option Addr} {cp : Nat} {l : List UInt8} {bad : Bool} (h : RInV w p ao cp l bad) :
    RInS w p (blockOf ao) (stOf l bad) (w.setCell ⟨p, 1, none⟩ (.bool bad)) := by
  obtain ⟨h1, h2, h3⟩ := h
  have hk : Keep (· = p) w (w.setCell ⟨p, 1, none⟩ (.bool bad)) := (Keep.refl (· = p) _).setCell (p := ⟨p, 1, none⟩) (fun _ => rfl) _
  refine ⟨⟨ao, cp, l, bad, ⟨?_, h2.keep hk (fun g hg e => by subst e; exact h3 hg), h3⟩, rfl, rfl⟩, hk⟩
  simp [World.setCell, Array.getElem?_modify, h1]

set_option maxHeartbeats 400000 in
theorem rtruth_any (p : Nat) (g : Option Nat) (st : Option (List UInt8)) (w : World) (hR : RInR w p g st) :
    Calls Try.prog 36 #[.pointer (some ⟨p, 0, none⟩)] w fun e w' =>
      e = .returned (.bool (decide (rdN 1 st = 1))) ∧ RInS w p g (rdTr st) w' := by
  obtain ⟨ao, cp, l, bad, hV, rfl, rfl⟩ := hR
  rw [rdTr]
  by_cases hb : bad = true ∨ l.length < 1
  · obtain ⟨e1, e2⟩ := rd_bad l bad 1 hb
    rw [e1, e2, if_neg (by decide), show decide ((0 : Nat) = 1) = false from rfl]
    clear e1 e2
    have hnil := fun W => Lib.run_eql_slice_nil (P := Try.prog) W 25 5 none 0 0 0 0 Try.underlying25
    go_enter Try.func36, Try.ntmps36
    go_wp2_with (go_at_call 50; refine (rtake_bad p ao cp l bad 1 w hV hb).mono ?_; rintro e w' ⟨rfl, hs⟩)
    go_ret
    exact ⟨rfl, hs⟩
  · obtain ⟨rfl, hn⟩ := not_bad hb
    clear hb
    obtain ⟨e1, e2⟩ := rd_good l 1 hn
    rw [e1, e2]
    obtain ⟨g, off, rfl, hb0⟩ := hV.2.1.2.2 0 (by omega)
    have el : leNat (l.take 1) = (l[0]).toNat := by
      match l, hn with
      | x :: l, _ => simp [leNat]
    rw [el]
    have x0 := (l[0]).toNat_lt
    clear e1 e2 el
    have hcap := hV.2.1.1
    have hnil := fun W => Lib.run_eql_slice_nil (P := Try.prog) W 25 5 (some ⟨g, off, none⟩) 1 cp 0 0 Try.underlying25
    have hV0 := hV
    have HV := Lib.hid hV0
    have hgp : ¬ g = p := fun e => hV.2.2 (by rw [← e]; rfl)
    generalize hxx : (l[0]).toNat = x at x0 ⊢
    rw [show bval (l[0]) = .int .u8 (x : Int) from by rw [bval, hxx], Nat.add_zero] at hb0
    clear hxx hV hV0
    by_cases hx : 1 < x
    · rw [if_pos hx]
      have hx2 : (1 : Int) < x := by omega
      have hx3 : ¬ x = 1 := by omega
      rw [decide_eq_false hx3]
      have hx4 : ((x : Int) == 1) = false := by simp; omega
      clear hx hx3
      go_enter Try.func36, Try.ntmps36
      go_wp2_with fail
      refine (rtake_ok p _ cp l 1 w HV.out hn).mono ?_
      rintro e w' ⟨rfl, hR, hk⟩
      have hb02 := hk.cell' hb0 (fun e => hgp e)
      obtain ⟨ao2, cp2, l2, bad2, hV2, hbo, hst⟩ := hR
      have hf := free_of_heap hV2.1 1
      have hc1 := cell_of_heap hV2.1 1
      simp at hc1
      have hb03 := hV2.spoil.2.cell' hb02 (fun e => hgp e)
      have Hs := Lib.hid hV2.spoil; have Hk := Lib.hid hk; have Hbo := Lib.hid hbo
      clear hV2 hk hst hbo hb0 HV
      go_wp2_with fail
      go_ret
      exact ⟨rfl, InS_r Hk.out Hbo.out Hs.out⟩
    · rw [if_neg hx]
      obtain ⟨bb, hbb⟩ : ∃ bb, decide (x = 1) = bb := ⟨_, rfl⟩
      rw [hbb]
      have hx4 : ((x : Int) == 1) = bb := by rw [← hbb, Bool.eq_iff_iff]; simp; omega
      have hx2 : decide ((1 : Int) < x) = false := by simp; omega
      clear hx hbb
      go_enter Try.func36, Try.ntmps36
      go_wp2_with fail
      refine (rtake_ok p _ cp l 1 w HV.out hn).mono ?_
      rintro e w' ⟨rfl, hR, hk⟩
      have hb02 := hk.cell' hb0 (fun e => hgp e)
      obtain ⟨ao2, cp2, l2, bad2, hV2, hbo, hst⟩ := hR
      have hf := free_of_heap hV2.1 1
      have hc1 := cell_of_heap hV2.1 1
      simp at hc1
      cases bad2 with
      | true => simp [stOf] at hst
      | false =>
        have hb03 := hV2.same.2.cell' hb02 (fun e => hgp e)
        have hs := hV2.same
        rw [hst] at hs
        have Hs := Lib.hid hs; have Hk := Lib.hid hk; have Hbo := Lib.hid hbo
        clear hV2 hk hst hbo hb0 HV hs
        go_wp2_with fail
        go_ret
        exact ⟨rfl, InS_r Hk.out Hbo.out Hs.out⟩

set_option maxHeartbeats 400000 in
theorem rleft_any (p : Nat) (g : Option Nat) (st : Option (List UInt8)) (w : World) (hR : RInR w p g st) :
    Calls Try.prog 37 #[.pointer (some ⟨p, 0, none⟩)] w fun e w' => e = .returned (.int .i64 (leftOf st)) ∧ w' = w := by
  obtain ⟨ao, cp, l, bad, hV, rfl, rfl⟩ := hR
  have hc := cell_of_heap hV.1 0
  simp at hc
  have hc1 := cell_of_heap hV.1 1
  simp at hc1
  have hcap := hV.2.1.1
  cases bad
  all_goals
    go_enter Try.func37, Try.ntmps37
    go_wp2
    go_ret
    exact ⟨rfl, rfl⟩

set_option maxHeartbeats 400000 in
theorem rend_any (p : Nat) (g : Option Nat) (st : Option (List UInt8)) (w : World) (hR : RInR w p g st) :
    Calls Try.prog 38 #[.pointer (some ⟨p, 0, none⟩)] w fun e w' => e = .returned (.bool (endOf st)) ∧ w' = w := by
  obtain ⟨ao, cp, l, bad, hV, rfl, rfl⟩ := hR
  have hc := cell_of_heap hV.1 0
  simp at hc
  have hc1 := cell_of_heap hV.1 1
  simp at hc1
  have hcap := hV.2.1.1
  cases bad with
  | true =>
    go_enter Try.func38, Try.ntmps38
    go_wp2
    go_ret
    exact ⟨rfl, rfl⟩
  | false =>
    obtain ⟨b, hb⟩ : ∃ b : Bool, ((l.length : Int) == 0) = b := ⟨_, rfl⟩
    have e : endOf (stOf l false) = b := by
      show decide (l.length = 0) = b
      rw [← hb, Bool.eq_iff_iff]; simp
    rw [e]
    clear e
    go_enter Try.func38, Try.ntmps38
    go_wp2
    go_ret
    exact ⟨rfl, rfl⟩
end Go.Proofs.Ytdipknkajmoldaa
