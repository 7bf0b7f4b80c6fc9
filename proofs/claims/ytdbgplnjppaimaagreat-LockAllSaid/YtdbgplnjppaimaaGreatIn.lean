/- The reader of bytes: what each of its methods does. -/
import Derived.Test.YtdbgplnjppaimaaGreatChecked
import Derived.Test.YtdbgplnjppaimaaGreatBase
import Derived.Test.YtdbgplnjppaimaaGreatBits
import Derived.Test.YtdbgplnjppaimaaGreatOut
open Go Go.RowKit
namespace Go.Proofs.YtdbgplnjppaimaaGreat

/-- A slice of bytes that can be read: from ao on, l, with a capacity of cp. -/
def SlB (w : World) (ao : Option Addr) (cp : Nat) (l : List UInt8) : Prop :=
  l.length ≤ cp ∧ cp ≤ maxLen ∧ ∀ i (h : i < l.length), ∃ g off, ao = some ⟨g, off, none⟩ ∧ w.cell? ⟨g, off + i, none⟩ = some (bval l[i])
def blockOf (ao : Option Addr) : Option Nat := ao.map (·.block)

theorem SlB.keep {F : Nat → Prop} {w w' : World} {ao : Option Addr} {cp : Nat} {l : List UInt8} (h : SlB w ao cp l) (hk : Keep F w w') (hn : ∀ g, blockOf ao = some g → ¬ F g) : SlB w' ao cp l := by
  refine ⟨h.1, h.2.1, fun i hi => ?_⟩
  obtain ⟨g, off, rfl, hc⟩ := h.2.2 i hi
  exact ⟨g, off, rfl, hk.cell' hc (hn g rfl)⟩

theorem SlB.take {w : World} {ao : Option Addr} {cp : Nat} {l : List UInt8} (h : SlB w ao cp l) (n : Nat) : SlB w ao cp (l.take n) := by
  refine ⟨Nat.le_trans (by simp; omega) h.1, h.2.1, fun i hi => ?_⟩
  have hi' : i < l.length := by simp at hi; omega
  obtain ⟨g, off, e, hc⟩ := h.2.2 i hi'
  exact ⟨g, off, e, by rw [hc]; simp⟩

theorem SlB.drop {w : World} {ao : Option Addr} {cp : Nat} {l : List UInt8} (h : SlB w ao cp l) (n : Nat) (hn : n ≤ l.length) :
    SlB w (if cp = n then ao else ao.map (·.add n)) (cp - n) (l.drop n) := by
  refine ⟨by have := h.1; simp; omega, by have := h.2.1; omega, fun i hi => ?_⟩
  have hi' : n + i < l.length := by simp at hi; omega
  obtain ⟨g, off, rfl, hc⟩ := h.2.2 (n + i) hi'
  have hne : ¬ cp = n := by have := h.1; omega
  rw [if_neg hne]
  by_cases h0 : n = 0
  · subst h0
    refine ⟨g, off, by simp [Addr.add], ?_⟩
    simp only [Nat.zero_add] at hc
    rw [hc]; simp
  · refine ⟨g, off + n, by simp [Addr.add, h0], ?_⟩
    rw [Nat.add_assoc, hc]; simp

theorem SlB.new (w : World) (l : List UInt8) (T : TypeId) (fz : Nat × Nat) (h : l.length ≤ maxLen) : SlB (w.alloc (.cells (bvs l).toArray T fz)) (some ⟨w.heap.size, 0, none⟩) l.length l := by
  refine ⟨Nat.le_refl _, h, fun i hi => ⟨_, _, rfl, ?_⟩⟩
  rw [cell_of_heap (heap_new _ _)]
  simp only [bvs, Nat.zero_add, List.getElem?_toArray, List.getElem?_map, List.getElem?_eq_getElem hi, Option.map_some]

/-- A reader at block p; its bytes lie in block g; st: what is left, none: it is bad. -/
def InV (w : World) (p : Nat) (ao : Option Addr) (cp : Nat) (l : List UInt8) (bad : Bool) : Prop :=
  w.heap[p]? = some (.cells #[.slice ao l.length cp, .bool bad] 148 (0, 0)) ∧ SlB w ao cp l ∧ blockOf ao ≠ some p
def stOf (l : List UInt8) (bad : Bool) : Option (List UInt8) := if bad then none else some l
def InR (w : World) (p : Nat) (g : Option Nat) (st : Option (List UInt8)) : Prop :=
  ∃ ao cp l bad, InV w p ao cp l bad ∧ blockOf ao = g ∧ stOf l bad = st
/-- A step of a reader. -/
def InS (w : World) (p : Nat) (g : Option Nat) (st : Option (List UInt8)) (w' : World) : Prop := InR w' p g st ∧ Keep (· = p) w w'

theorem InR.keep {F : Nat → Prop} {w w' : World} {p : Nat} {g : Option Nat} {st : Option (List UInt8)} (h : InR w p g st) (hk : Keep F w w') (hp : ¬ F p) (hn : ∀ k, g = some k → ¬ F k) : InR w' p g st := by
  obtain ⟨ao, cp, l, bad, ⟨h1, h2, h3⟩, rfl, rfl⟩ := h
  exact ⟨ao, cp, l, bad, ⟨by rw [hk.block p (lt_of_heap h1) hp]; exact h1, h2.keep hk hn, h3⟩, rfl, rfl⟩

theorem blockOf_cut (ao : Option Addr) (cp n : Nat) : blockOf (if cp = n then ao else ao.map (·.add n)) = blockOf ao := by
  split
  · rfl
  · cases ao <;> simp [blockOf, Addr.add]; split <;> rfl

/-- Behind a reader's store to itself. -/
theorem InV.cut {w : World} {p : Nat} {ao : Option Addr} {cp : Nat} {l : List UInt8} {bad : Bool} (h : InV w p ao cp l bad) (n : Nat) (hn : n ≤ l.length) {m c : Nat} {a2 : Option Addr} (hm : m = l.length - n) (hc : c = cp - n) (ha : a2 = if cp = n then ao else ao.map (·.add n)) :
    InS w p (blockOf ao) (stOf (l.drop n) bad) (w.setCell ⟨p, 0, none⟩ (.slice a2 m c)) := by
  subst hm hc ha
  obtain ⟨h1, h2, h3⟩ := h
  have hk : Keep (· = p) w (w.setCell ⟨p, 0, none⟩ (.slice (if cp = n then ao else ao.map (·.add n)) (l.length - n) (cp - n))) :=
    (Keep.refl (· = p) _).setCell (p := ⟨p, 0, none⟩) (fun _ => rfl) _
  refine ⟨⟨_, cp - n, l.drop n, bad, ⟨?_, (h2.drop n hn).keep hk ?_, ?_⟩, blockOf_cut _ _ _, rfl⟩, hk⟩
  · simp [World.setCell, Array.getElem?_modify, h1]
  · intro g hg; rw [blockOf_cut] at hg; intro e; subst e; exact h3 hg
  · rw [blockOf_cut]; exact h3

theorem InV.spoil {w : World} {p : Nat} {ao : Option Addr} {cp : Nat} {l : List UInt8} {bad : Bool} (h : InV w p ao cp l bad) :
    InS w p (blockOf ao) none (w.setCell ⟨p, 1, none⟩ (.bool true)) := by
  obtain ⟨h1, h2, h3⟩ := h
  have hk : Keep (· = p) w (w.setCell ⟨p, 1, none⟩ (.bool true)) := (Keep.refl (· = p) _).setCell (p := ⟨p, 1, none⟩) (fun _ => rfl) _
  refine ⟨⟨ao, cp, l, true, ⟨?_, h2.keep hk (fun g hg e => by subst e; exact h3 hg), h3⟩, rfl, rfl⟩, hk⟩
  simp [World.setCell, Array.getElem?_modify, h1]

theorem InS.trans {w w1 w2 : World} {p : Nat} {g : Option Nat} {st : Option (List UInt8)} (hk : Keep (· = p) w w1) (h : InS w1 p g st w2) : InS w p g st w2 :=
  ⟨h.1, hk.trans' h.2⟩

set_option maxHeartbeats 400000 in
theorem read_any (ao : Option Addr) (cp : Nat) (l : List UInt8) (w : World) (h : SlB w ao cp l) (hb : ∀ g, blockOf ao = some g → g < w.heap.size) :
    Calls Tryz.prog 84 #[.slice ao l.length cp] w fun e w' => e = .returned (.pointer (some ⟨w.heap.size, 0, none⟩)) ∧ InR w' w.heap.size (blockOf ao) (some l) ∧ Keep NoF w w' := by
  go_enter Tryz.func84, Tryz.ntmps84
  go_wp2
  go_ret
  refine ⟨rfl, ⟨ao, cp, l, false, ⟨?_, ?_, ?_⟩, rfl, rfl⟩, ?_⟩
  · exact heap_new _ _
  · exact h.keep ((Keep.refl NoF _).alloc _) (fun _ _ f => f)
  · intro e; have := hb _ e; omega
  · exact (Keep.refl NoF _).alloc _

theorem read_at (ao : Option Addr) (cp : Nat) (l : List UInt8) (w : World) (h : SlB w ao cp l) (hb : ∀ g, blockOf ao = some g → g < w.heap.size) (z : Nat) (hz : w.heap.size = z) :
    Calls Tryz.prog 84 #[.slice ao l.length cp] w fun e w' => e = .returned (.pointer (some ⟨z, 0, none⟩)) ∧ InR w' z (blockOf ao) (some l) ∧ Keep NoF w w' := by
  subst hz; exact read_any ao cp l w h hb

set_option maxHeartbeats 400000 in
theorem spoil_any (p : Nat) (ao : Option Addr) (cp : Nat) (l : List UInt8) (bad : Bool) (w : World) (h : InV w p ao cp l bad) :
    Calls Tryz.prog 107 #[.pointer (some ⟨p, 0, none⟩)] w fun e w' => e = .returned (.tuple #[]) ∧ InS w p (blockOf ao) none w' := by
  have hc := cell_of_heap h.1 1
  simp at hc
  have hf := free_of_heap h.1 1
  go_enter Tryz.func107, Tryz.ntmps107
  go_wp2
  go_end0
  exact ⟨rfl, h.spoil⟩

set_option maxHeartbeats 400000 in
theorem next_ok (p : Nat) (ao : Option Addr) (cp : Nat) (l : List UInt8) (n : Nat) (w : World) (hV : InV w p ao cp l false) (hn : n ≤ l.length) :
    Calls Tryz.prog 108 #[.pointer (some ⟨p, 0, none⟩), .int .i64 n] w fun e w' =>
      e = .returned (.slice ao n cp) ∧ InS w p (blockOf ao) (some (l.drop n)) w' := by
  have hc := cell_of_heap hV.1 0
  simp at hc
  have hc1 := cell_of_heap hV.1 1
  simp at hc1
  have hf := free_of_heap hV.1 0
  have hcap := hV.2.1.1
  have hmax := hV.2.1.2.1
  unfold maxLen at hmax
  have hn1 : (n : Int) ≤ l.length := by omega
  have hn2 : (n : Int) ≤ cp := by omega
  have hx := hV.cut n hn (m := l.length - n) (c := cp - n) rfl rfl rfl
  have Hx := Lib.hid hx; clear hx
  by_cases he : cp = n
  · rw [if_pos he] at Hx
    subst he
    go_enter Tryz.func108, Tryz.ntmps108
    go_wp2
    go_ret
    refine ⟨rfl, ?_⟩
    have e0 : l.length - cp = 0 := by omega
    have := Hx.out
    rw [e0, Nat.sub_self] at this
    exact this
  · rw [if_neg he] at Hx
    go_enter Tryz.func108, Tryz.ntmps108
    go_wp2
    go_ret
    exact ⟨rfl, Hx.out⟩

set_option maxHeartbeats 400000 in
theorem next_bad (p : Nat) (ao : Option Addr) (cp : Nat) (l : List UInt8) (bad : Bool) (n : Nat) (w : World) (hV : InV w p ao cp l bad) (hn : bad = true ∨ l.length < n) :
    Calls Tryz.prog 108 #[.pointer (some ⟨p, 0, none⟩), .int .i64 n] w fun e w' =>
      e = .returned (.slice none 0 0) ∧ InS w p (blockOf ao) none w' := by
  have hc := cell_of_heap hV.1 0
  simp at hc
  have hc1 := cell_of_heap hV.1 1
  simp at hc1
  cases bad with
  | true =>
    go_enter Tryz.func108, Tryz.ntmps108
    go_wp2_with (go_at_call 107; refine (spoil_any p ao cp l true w hV).mono ?_; rintro e w' ⟨rfl, hs⟩)
    go_ret
    exact ⟨rfl, hs⟩
  | false =>
    have hn' : (l.length : Int) < n := by simp at hn; omega
    go_enter Tryz.func108, Tryz.ntmps108
    go_wp2_with (go_at_call 107; refine (spoil_any p ao cp l false w hV).mono ?_; rintro e w' ⟨rfl, hs⟩)
    go_ret
    exact ⟨rfl, hs⟩

/-- The number that bytes are, the lowest first. -/
def leNat : List UInt8 → Nat
  | [] => 0
  | x :: l => x.toNat + 256 * leNat l
theorem leNat_append (a b : List UInt8) : leNat (a ++ b) = leNat a + 256 ^ a.length * leNat b := by
  induction a with
  | nil => simp [leNat]
  | cons x a ih => simp [leNat, ih, Nat.pow_succ]; rw [Nat.mul_add, ← Nat.mul_assoc, Nat.mul_comm 256 (256 ^ a.length)]; omega
theorem leNat_lt (a : List UInt8) : leNat a < 256 ^ a.length := by
  induction a with
  | nil => simp [leNat]
  | cons x a ih => have := x.toNat_lt; simp only [leNat, List.length_cons, Nat.pow_succ]; omega

/-- What a reader gives for a number of so many bytes, and what it is then. -/
def rdN (k : Nat) : Option (List UInt8) → Nat
  | some l => if k ≤ l.length then leNat (l.take k) else 0
  | none => 0
def rdS (k : Nat) : Option (List UInt8) → Option (List UInt8)
  | some l => if k ≤ l.length then some (l.drop k) else none
  | none => none

set_option maxHeartbeats 400000 in
theorem inwide_ok (p : Nat) (ao : Option Addr) (cp : Nat) (l : List UInt8) (n : Nat) (w : World) (hV : InV w p ao cp l false) (hn : n ≤ l.length) (h8 : n ≤ 8) :
    Calls Tryz.prog 106 #[.pointer (some ⟨p, 0, none⟩), .int .i64 n] w fun e w' =>
      e = .returned (.int .u64 (leNat (l.take n))) ∧ InS w p (blockOf ao) (some (l.drop n)) w' := by
  go_enter Tryz.func106, Tryz.ntmps106
  go_wp2_with (go_at_call 108; refine (next_ok p ao cp l n w hV hn).mono ?_; rintro e w' ⟨rfl, hs⟩)
  go_loop [5, 12] (fun acc i => ∃ k : Nat, k ≤ n ∧ i = .int .i64 k ∧ acc = .int .u64 (leNat (l.take k))) (fun _ i => n - (intOf i).toNat)
  case atStart => exact ⟨0, Nat.zero_le _, rfl, rfl⟩
  case round =>
    obtain ⟨k, hk, rfl, rfl⟩ := hrel
    by_cases hlt : k < n
    · obtain ⟨g, off, rfl, hcell⟩ := (hV.2.1.keep hs.2 (fun g hg e => by subst e; exact hV.2.2 hg)).2.2 k (by omega)
      simp only [bval] at hcell
      have hx := l[k].toNat_lt
      generalize hxd : l[k].toNat = x at hcell hx
      have Hxd := Lib.hid hxd; clear hxd
      clear hV hs
      have hlt8 : leNat (l.take k) < 2 ^ (8 * k) := by
        have := leNat_lt (l.take k)
        rw [List.length_take, Nat.min_eq_left (by omega), show (256 : Nat) = 2 ^ 8 from rfl, ← Nat.pow_mul] at this
        exact this
      have hor := or_step_u64 (leNat (l.take k)) x k hlt8 (by omega) (by omega)
      have hnext : leNat (l.take k) + 2 ^ (8 * k) * x = leNat (l.take (k + 1)) := by
        rw [List.take_succ_eq_append_getElem (by omega), leNat_append, List.length_take, Nat.min_eq_left (by omega), show (256 : Nat) = 2 ^ 8 from rfl, ← Nat.pow_mul]
        simp [leNat, Hxd.out]
      rw [hnext] at hor
      clear hnext hlt8
      go_wp2_with fail
      go_round
      case rel => exact ⟨k + 1, by omega, by go_num, rfl⟩
      case measure => simp [intOf]; omega
    · obtain rfl : k = n := by omega
      go_wp2
      go_ret
      exact ⟨rfl, hs⟩

set_option maxHeartbeats 400000 in
theorem inwide_bad (p : Nat) (ao : Option Addr) (cp : Nat) (l : List UInt8) (bad : Bool) (n : Nat) (w : World) (hV : InV w p ao cp l bad) (hn : bad = true ∨ l.length < n) :
    Calls Tryz.prog 106 #[.pointer (some ⟨p, 0, none⟩), .int .i64 n] w fun e w' =>
      e = .returned (.int .u64 0) ∧ InS w p (blockOf ao) none w' := by
  go_enter Tryz.func106, Tryz.ntmps106
  go_wp2_with (go_at_call 108; refine (next_bad p ao cp l bad n w hV hn).mono ?_; rintro e w' ⟨rfl, hs⟩)
  refine wp_loop_rounds 1 ?_
  rw [rounds_succ]
  go_wp2
  go_ret
  exact ⟨rfl, hs⟩

theorem inwide_any (p : Nat) (g : Option Nat) (st : Option (List UInt8)) (n : Nat) (w : World) (hR : InR w p g st) (h8 : n ≤ 8) :
    Calls Tryz.prog 106 #[.pointer (some ⟨p, 0, none⟩), .int .i64 n] w fun e w' =>
      e = .returned (.int .u64 (rdN n st)) ∧ InS w p g (rdS n st) w' := by
  obtain ⟨ao, cp, l, bad, hV, rfl, rfl⟩ := hR
  cases bad with
  | true => exact inwide_bad p ao cp l true n w hV (.inl rfl)
  | false =>
    by_cases hn : n ≤ l.length
    · have e1 : rdN n (stOf l false) = leNat (l.take n) := by simp [stOf, rdN, hn]
      have e2 : rdS n (stOf l false) = some (l.drop n) := by simp [stOf, rdS, hn]
      rw [e1, e2]
      exact inwide_ok p ao cp l n w hV hn h8
    · have e1 : rdN n (stOf l false) = 0 := by simp [stOf, rdN, hn]
      have e2 : rdS n (stOf l false) = none := by simp [stOf, rdS, hn]
      rw [e1, e2]
      exact inwide_bad p ao cp l false n w hV (.inr (by omega))

theorem rdN_lt (k : Nat) (st : Option (List UInt8)) : rdN k st < 256 ^ k := by
  cases st with
  | none => simp [rdN]; exact Nat.pow_pos (by omega)
  | some l =>
    simp only [rdN]
    split
    · rename_i h
      have := leNat_lt (l.take k)
      rwa [List.length_take, Nat.min_eq_left h] at this
    · exact Nat.pow_pos (by omega)

set_option maxHeartbeats 400000 in
theorem insmall_any (p : Nat) (g : Option Nat) (st : Option (List UInt8)) (w : World) (hR : InR w p g st) :
    Calls Tryz.prog 85 #[.pointer (some ⟨p, 0, none⟩)] w fun e w' =>
      e = .returned (.int .i64 (rdN 2 st)) ∧ InS w p g (rdS 2 st) w' := by
  have hb := rdN_lt 2 st
  go_enter Tryz.func85, Tryz.ntmps85
  go_wp2_with (go_at_call 106; refine (inwide_any p g st 2 w hR (by omega)).mono ?_; rintro e w' ⟨rfl, hs⟩)
  go_ret
  exact ⟨rfl, hs⟩

set_option maxHeartbeats 400000 in
theorem inlong_any (p : Nat) (g : Option Nat) (st : Option (List UInt8)) (w : World) (hR : InR w p g st) :
    Calls Tryz.prog 86 #[.pointer (some ⟨p, 0, none⟩)] w fun e w' =>
      e = .returned (.int .i64 (wrap64 (rdN 8 st))) ∧ InS w p g (rdS 8 st) w' := by
  go_enter Tryz.func86, Tryz.ntmps86
  go_wp2_with (go_at_call 106; refine (inwide_any p g st 8 w hR (by omega)).mono ?_; rintro e w' ⟨rfl, hs⟩)
  go_ret
  exact ⟨rfl, hs⟩

def rdTr (st : Option (List UInt8)) : Option (List UInt8) := if 1 < rdN 1 st then none else rdS 1 st
set_option maxHeartbeats 400000 in
theorem intruth_any (p : Nat) (g : Option Nat) (st : Option (List UInt8)) (w : World) (hR : InR w p g st) :
    Calls Tryz.prog 87 #[.pointer (some ⟨p, 0, none⟩)] w fun e w' =>
      e = .returned (.bool (decide (rdN 1 st = 1))) ∧ InS w p g (rdTr st) w' := by
  have hb := rdN_lt 1 st
  by_cases h1 : 1 < rdN 1 st
  · have e1 : rdTr st = none := by simp [rdTr, h1]
    have e2 : decide (rdN 1 st = 1) = false := by simp; omega
    have e3 : ((rdN 1 st : Int) == 1) = false := by simp; omega
    rw [e1, e2]
    go_enter Tryz.func87, Tryz.ntmps87
    go_wp2_with (first | (go_at_call 106; refine (inwide_any p g st 1 w hR (by omega)).mono ?_; rintro e w' ⟨rfl, hs⟩; obtain ⟨⟨ao, cp, l, bad, hV, hg, _⟩, hk⟩ := hs) | (go_at_call 107; refine (spoil_any p ao cp l bad w' hV).mono ?_; rintro e w2 ⟨rfl, hs2⟩))
    go_ret
    exact ⟨rfl, InS.trans hk (by rw [← hg]; exact hs2)⟩
  · have e1 : rdTr st = rdS 1 st := by simp [rdTr, h1]
    rw [e1]
    by_cases h2 : rdN 1 st = 1
    · have e3 : ((rdN 1 st : Int) == 1) = true := by simp; omega
      have e4 : decide (rdN 1 st = 1) = true := by simpa using h2
      rw [e4]
      clear h2 e4
      go_enter Tryz.func87, Tryz.ntmps87
      go_wp2_with (go_at_call 106; refine (inwide_any p g st 1 w hR (by omega)).mono ?_; rintro e w' ⟨rfl, hs⟩)
      go_ret
      exact ⟨rfl, hs⟩
    · have e3 : ((rdN 1 st : Int) == 1) = false := by simp; omega
      have e4 : decide (rdN 1 st = 1) = false := by simpa using h2
      rw [e4]
      clear e4
      go_enter Tryz.func87, Tryz.ntmps87
      go_wp2_with (go_at_call 106; refine (inwide_any p g st 1 w hR (by omega)).mono ?_; rintro e w' ⟨rfl, hs⟩)
      go_ret
      exact ⟨rfl, hs⟩

set_option maxHeartbeats 400000 in
theorem inbad_any (p : Nat) (g : Option Nat) (st : Option (List UInt8)) (w : World) (hR : InR w p g st) :
    Calls Tryz.prog 88 #[.pointer (some ⟨p, 0, none⟩)] w fun e w' => e = .returned (.bool st.isNone) ∧ w = w' := by
  obtain ⟨ao, cp, l, bad, hV, rfl, rfl⟩ := hR
  have hc := cell_of_heap hV.1 1
  simp at hc
  have e1 : (stOf l bad).isNone = bad := by cases bad <;> rfl
  rw [e1]
  clear e1
  go_enter Tryz.func88, Tryz.ntmps88
  go_wp2
  go_ret
  exact ⟨rfl, rfl⟩

def leftOf : Option (List UInt8) → Nat
  | some l => l.length
  | none => 0
set_option maxHeartbeats 400000 in
theorem inleft_any (p : Nat) (g : Option Nat) (st : Option (List UInt8)) (w : World) (hR : InR w p g st) :
    Calls Tryz.prog 109 #[.pointer (some ⟨p, 0, none⟩)] w fun e w' => e = .returned (.int .i64 (leftOf st)) ∧ w = w' := by
  have hR0 := hR
  obtain ⟨ao, cp, l, bad, hV, rfl, rfl⟩ := hR
  have hc := cell_of_heap hV.1 0
  simp at hc
  cases bad with
  | true =>
    go_enter Tryz.func109, Tryz.ntmps109
    go_wp2_with (go_at_call 88; refine (inbad_any p (blockOf ao) (stOf l true) w hR0).mono ?_; rintro e w' ⟨rfl, rfl⟩; have e1 : (stOf l true).isNone = true := rfl)
    go_ret
    exact ⟨rfl, rfl⟩
  | false =>
    go_enter Tryz.func109, Tryz.ntmps109
    go_wp2_with (go_at_call 88; refine (inbad_any p (blockOf ao) (stOf l false) w hR0).mono ?_; rintro e w' ⟨rfl, rfl⟩; have e1 : (stOf l false).isNone = false := rfl)
    go_ret
    exact ⟨rfl, rfl⟩

def endOf : Option (List UInt8) → Bool
  | some l => decide (l.length = 0)
  | none => false
set_option maxHeartbeats 400000 in
theorem inend_any (p : Nat) (g : Option Nat) (st : Option (List UInt8)) (w : World) (hR : InR w p g st) :
    Calls Tryz.prog 90 #[.pointer (some ⟨p, 0, none⟩)] w fun e w' => e = .returned (.bool (endOf st)) ∧ w = w' := by
  have hR0 := hR
  obtain ⟨ao, cp, l, bad, hV, rfl, rfl⟩ := hR
  have hc := cell_of_heap hV.1 0
  simp at hc
  cases bad with
  | true =>
    go_enter Tryz.func90, Tryz.ntmps90
    go_wp2_with (go_at_call 88; refine (inbad_any p (blockOf ao) (stOf l true) w hR0).mono ?_; rintro e w' ⟨rfl, rfl⟩; have e1 : (stOf l true).isNone = true := rfl)
    go_ret
    exact ⟨rfl, rfl⟩
  | false =>
    by_cases h0 : l.length = 0
    · have e0 : ((l.length : Int) == 0) = true := by rw [h0]; rfl
      have e2 : endOf (stOf l false) = true := by simp [endOf, stOf]; exact List.eq_nil_of_length_eq_zero h0
      rw [e2]
      clear h0
      go_enter Tryz.func90, Tryz.ntmps90
      go_wp2_with (go_at_call 88; refine (inbad_any p (blockOf ao) (stOf l false) w hR0).mono ?_; rintro e w' ⟨rfl, rfl⟩; have e1 : (stOf l false).isNone = false := rfl)
      go_ret
      exact ⟨rfl, rfl⟩
    · have e0 : ((l.length : Int) == 0) = false := by simp; intro h; exact h0 (by simp [h])
      have e2 : endOf (stOf l false) = false := by simp [endOf, stOf]; intro h; exact h0 (by simp [h])
      rw [e2]
      clear h0
      go_enter Tryz.func90, Tryz.ntmps90
      go_wp2_with (go_at_call 88; refine (inbad_any p (blockOf ao) (stOf l false) w hR0).mono ?_; rintro e w' ⟨rfl, rfl⟩; have e1 : (stOf l false).isNone = false := rfl)
      go_ret
      exact ⟨rfl, rfl⟩

/-- Bytes as a text. -/
def bstr (l : List UInt8) : ByteArray := ⟨l.toArray⟩
theorem bstr_size (l : List UInt8) : (bstr l).size = l.length := by simp [bstr, ByteArray.size]
theorem foldl_push_data (l : List UInt8) : ∀ s : ByteArray, ((l.map fun x : UInt8 => (x.toNat : Int)).foldl (fun r n => r.push (UInt8.ofNat n.toNat)) s).data = s.data ++ l.toArray := by
  induction l with
  | nil => intro s; simp
  | cons x l ih => intro s; simp only [List.map_cons, List.foldl_cons]; rw [ih]; simp [ByteArray.push]
theorem run_convert_SlB {P : Program} {w : World} {ao : Option Addr} {cp : Nat} {l : List UInt8} (h : SlB w ao cp l) {src dst e : TypeId}
    (hs : P.underlying src = some (.slice e)) (he : P.underlying e = some (.int .u8)) (hd : P.underlying dst = some .string) :
    (convert src dst (.slice ao l.length cp)).run P w = .ok (.string (bstr l)) w := by
  rw [run_convert_bytes_string w src dst e ao _ _ hs he hd]
  have hfold : (l.map fun x : UInt8 => (x.toNat : Int)).foldl (fun r n => r.push (UInt8.ofNat n.toNat)) ByteArray.empty = bstr l := by
    have := foldl_push_data l ByteArray.empty
    cases hf : (l.map fun x : UInt8 => (x.toNat : Int)).foldl (fun r n => r.push (UInt8.ofNat n.toNat)) ByteArray.empty
    rw [hf] at this
    simp at this
    rw [bstr, this]
  cases ao with
  | none =>
    have h0 : l = [] := by
      cases l with
      | nil => rfl
      | cons x l => obtain ⟨g, off, e, _⟩ := h.2.2 0 (by simp); cases e
    subst h0
    rfl
  | some a =>
    rw [run_bytesToString w a l.length cp (l.map fun x : UInt8 => (x.toNat : Int)), hfold]
    have := run_loadCells_list (P := P) (w := w) a (bvs l) (by
      intro j v hv
      simp only [bvs, List.getElem?_map] at hv
      have hj : j < l.length := by
        rcases Nat.lt_or_ge j l.length with h | h
        · exact h
        · rw [List.getElem?_eq_none h] at hv; cases hv
      obtain ⟨g, off, e, hc⟩ := h.2.2 j hj
      have e' : a = ⟨g, off, none⟩ := by injection e
      subst e'
      rw [List.getElem?_eq_getElem hj] at hv
      simp at hv
      subst hv
      rw [← hc]
      congr 1
      simp [Addr.add])
    rw [bvs_length] at this
    rw [this]
    congr 2
    simp [bvs, bval]

/-- What a reader gives for a text, and what it is then. -/
def rdT (st : Option (List UInt8)) : List UInt8 := match rdS 2 st with
  | some l => if rdN 2 st ≤ l.length then l.take (rdN 2 st) else []
  | none => []
def rdTs (st : Option (List UInt8)) : Option (List UInt8) := rdS (rdN 2 st) (rdS 2 st)

set_option maxHeartbeats 400000 in
theorem intext_any (p : Nat) (g : Option Nat) (st : Option (List UInt8)) (w : World) (hR : InR w p g st) :
    Calls Tryz.prog 89 #[.pointer (some ⟨p, 0, none⟩)] w fun e w' =>
      e = .returned (.string (bstr (rdT st))) ∧ InS w p g (rdTs st) w' := by
  have hconv0 := fun W => run_convert_SlB (P := Tryz.prog) (w := W) (ao := none) (cp := 0) (l := []) ⟨by simp, by simp, by simp⟩ (src := 26) (dst := 9) Tryz.underlying26 Tryz.underlying5 Tryz.underlying9
  simp only [List.length_nil] at hconv0
  go_enter Tryz.func89, Tryz.ntmps89
  go_wp2_with fail
  refine (insmall_any p g st w hR).mono ?_
  rintro e w' ⟨rfl, ⟨⟨ao, cp, l, bad, hV, rfl, hst⟩, hk⟩⟩
  have hT : rdT st = match stOf l bad with
    | some l => if rdN 2 st ≤ l.length then l.take (rdN 2 st) else []
    | none => [] := by rw [hst]; rfl
  have hTs : rdTs st = rdS (rdN 2 st) (stOf l bad) := by rw [hst]; rfl
  clear hst
  generalize rdN 2 st = n at hT hTs ⊢
  have HT := Lib.hid hT; clear hT
  have HTs := Lib.hid hTs; clear hTs
  go_wp2_with fail
  by_cases hb : bad = true ∨ l.length < n
  · refine (next_bad p ao cp l bad n w' hV hb).mono ?_
    rintro e w2 ⟨rfl, hs⟩
    have Hb := Lib.hid hb; clear hb
    go_wp2_with fail
    go_ret
    have e1 : rdS n (stOf l bad) = none := by
      rcases Hb.out with h | h
      · subst h; rfl
      · cases bad
        · simp [stOf, rdS]; omega
        · rfl
    have e2 : (match stOf l bad with
      | some l => if n ≤ l.length then l.take n else []
      | none => []) = [] := by
      rcases Hb.out with h | h
      · subst h; rfl
      · cases bad
        · simp [stOf]; intro h2; omega
        · rfl
    rw [HT.out, HTs.out, e1, e2]
    exact ⟨rfl, InS.trans hk hs⟩
  · have hbad : bad = false := by cases bad with
      | false => rfl
      | true => exact absurd (Or.inl rfl) hb
    subst hbad
    have hn : n ≤ l.length := by
      rcases Nat.lt_or_ge l.length n with h | h
      · exact absurd (Or.inr h) hb
      · exact h
    clear hb
    refine (next_ok p ao cp l n w' hV hn).mono ?_
    rintro e w2 ⟨rfl, hs⟩
    have hsl := (hV.2.1.take n).keep hs.2 (fun g hg e => by subst e; exact hV.2.2 hg)
    have hconv := run_convert_SlB (P := Tryz.prog) hsl (src := 26) (dst := 9) Tryz.underlying26 Tryz.underlying5 Tryz.underlying9
    rw [List.length_take, Nat.min_eq_left hn] at hconv
    clear hsl
    have Hs := Lib.hid hs; clear hs
    go_wp2_with fail
    go_ret
    have e1 : rdS n (stOf l false) = some (l.drop n) := by simp [stOf, rdS, hn]
    have e2 : (match stOf l false with
      | some l => if n ≤ l.length then l.take n else []
      | none => []) = l.take n := by simp [stOf, hn]
    rw [HT.out, HTs.out, e1, e2]
    exact ⟨rfl, InS.trans hk Hs.out⟩

end Go.Proofs.YtdbgplnjppaimaaGreat
