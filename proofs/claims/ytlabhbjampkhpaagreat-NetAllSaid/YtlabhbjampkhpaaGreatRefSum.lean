/- The reference's sum, bit by bit, is Castagnoli's sum. -/
import Derived.Test.YtlabhbjampkhpaaGreatChecked
import Derived.Test.YtlabhbjampkhpaaGreatRows1
open Go Go.RowKit
namespace Go.Proofs.YtlabhbjampkhpaaGreat

/-- Thirty-two truths in a row. -/
def regArr (f : Nat → Bool) : Array Value := ((List.range 32).map fun i => Value.bool (f i)).toArray
def Reg (w : World) (B : Nat) (f : Nat → Bool) : Prop := ∃ T, w.heap[B]? = some (.cells (regArr f) T (0, 0))
def upd (f : Nat → Bool) (i : Nat) (b : Bool) : Nat → Bool := fun j => if j = i then b else f j
theorem regArr_set (f : Nat → Bool) (i : Nat) (b : Bool) : (regArr f).setIfInBounds i (.bool b) = regArr (upd f i b) := by
  apply Array.ext'
  simp only [regArr, List.setIfInBounds_toArray]
  apply List.ext_getElem
  · simp
  · intro j h1 h2
    simp only [List.getElem_set, List.getElem_map, List.getElem_range, upd]
    by_cases h : i = j
    · subst h; simp
    · rw [if_neg h, if_neg (fun e => h e.symm)]
theorem regArr_get (f : Nat → Bool) (i : Nat) (h : i < 32) : (regArr f)[i]? = some (.bool (f i)) := by
  simp [regArr, h]
theorem Reg.cell {w : World} {B : Nat} {f : Nat → Bool} (h : Reg w B f) (i : Nat) (hi : i < 32) : w.cell? ⟨B, i, none⟩ = some (.bool (f i)) := by
  obtain ⟨T, h⟩ := h
  rw [cell_of_heap h, regArr_get f i hi]
theorem Reg.free {w : World} {B : Nat} {f : Nat → Bool} (h : Reg w B f) (i : Nat) : w.frozen? ⟨B, i, none⟩ = false := by
  obtain ⟨T, h⟩ := h
  exact free_of_heap h i
theorem Reg.set {w : World} {B : Nat} {f : Nat → Bool} (h : Reg w B f) (i : Nat) (b : Bool) : Reg (w.setCell ⟨B, i, none⟩ (.bool b)) B (upd f i b) := by
  obtain ⟨T, h⟩ := h
  exact ⟨T, by simp [World.setCell, Array.getElem?_modify, h, regArr_set]⟩
theorem Reg.congr {w : World} {B : Nat} {f g : Nat → Bool} (h : Reg w B f) (e : ∀ i, i < 32 → f i = g i) : Reg w B g := by
  obtain ⟨T, h⟩ := h
  refine ⟨T, ?_⟩
  rw [h]
  have : regArr f = regArr g := by
    unfold regArr
    rw [List.map_congr_left (fun i hi => by rw [e i (by simpa using hi)])]
  rw [this]

def polyAt (k : Nat) : Nat := [0, 6, 8, 9, 10, 11, 13, 14, 18, 19, 20, 22, 23, 25, 26, 27, 28].getD k 0
def polyArr : Array Value := #[.int .i64 0, .int .i64 6, .int .i64 8, .int .i64 9, .int .i64 10, .int .i64 11, .int .i64 13, .int .i64 14, .int .i64 18, .int .i64 19, .int .i64 20, .int .i64 22, .int .i64 23, .int .i64 25, .int .i64 26, .int .i64 27, .int .i64 28]
def Poly (w : World) (B : Nat) : Prop := ∃ T, w.heap[B]? = some (.cells polyArr T (0, 0))
theorem polyArr_get (k : Nat) (h : k < 17) : polyArr[k]? = some (.int .i64 (polyAt k)) := by
  rcases k with _|_|_|_|_|_|_|_|_|_|_|_|_|_|_|_|_|k <;> first | rfl | omega
theorem polyAt_le (k : Nat) (h : k < 17) : polyAt k ≤ 28 := by
  rcases k with _|_|_|_|_|_|_|_|_|_|_|_|_|_|_|_|_|k <;> first | decide | omega
theorem Poly.cell {w : World} {B : Nat} (h : Poly w B) (k : Nat) (hk : k < 17) : w.cell? ⟨B, k, none⟩ = some (.int .i64 (polyAt k)) := by
  obtain ⟨T, h⟩ := h
  rw [cell_of_heap h, polyArr_get k hk]
theorem Poly.set {w : World} {B C : Nat} (h : Poly w B) (hne : B ≠ C) (i : Nat) (v : Value) : Poly (w.setCell ⟨C, i, none⟩ v) B := by
  obtain ⟨T, h⟩ := h
  exact ⟨T, by rw [Below.heap_setCell _ _ _ _ hne]; exact h⟩
theorem Reg.keep {w w' : World} {F : Nat → Prop} {B : Nat} {f : Nat → Bool} (h : Reg w B f) (hk : Keep F w w') (hn : ¬ F B) : Reg w' B f := by
  obtain ⟨T, h⟩ := h
  exact ⟨T, by rw [hk.block B (lt_of_heap h) hn]; exact h⟩

def flipN (f : Nat → Bool) : Nat → Nat → Bool
  | 0 => f
  | k + 1 => upd (flipN f k) (31 - polyAt k) (!flipN f k (31 - polyAt k))
def flipP : Nat → Nat → Bool
  | 0, _ => false
  | k + 1, j => if j = 31 - polyAt k then !flipP k j else flipP k j
theorem flipN_par (f : Nat → Bool) (j k : Nat) : flipN f k j = (f j != flipP k j) := by
  induction k with
  | zero => simp [flipN, flipP]
  | succ k ih =>
    simp only [flipN, flipP, upd]
    by_cases h : j = 31 - polyAt k
    · rw [if_pos h, if_pos h, ← h, ih]; cases f j <;> cases flipP k j <;> rfl
    · rw [if_neg h, if_neg h, ih]
set_option maxRecDepth 4000 in
theorem flipP_all : ∀ j, j < 32 → flipP 17 j = (2197175160 : Nat).testBit j := by decide +kernel
theorem flipN_all (f : Nat → Bool) (j : Nat) (h : j < 32) : flipN f 17 j = (f j != (2197175160 : Nat).testBit j) := by
  rw [flipN_par, flipP_all j h]
theorem Poly.keep {w w' : World} {F : Nat → Prop} {B : Nat} (h : Poly w B) (hk : Keep F w w') (hn : ¬ F B) : Poly w' B := by
  obtain ⟨T, h⟩ := h
  exact ⟨T, by rw [hk.block B (lt_of_heap h) hn]; exact h⟩
theorem crcStep_bit (s t : Nat) (ht : t < 2) : crcStep (s ^^^ t) = if (!s.testBit 0 == decide (t = 1)) = true then s / 2 ^^^ 2197175160 else s / 2 := by
  have hm : (s ^^^ t) % 2 = (s % 2 + t % 2) % 2 := xor_mod2 _ _
  have hd2 : (s ^^^ t) / 2 = s / 2 := by rw [xor_div2, show t / 2 = 0 by omega, Nat.xor_zero]
  unfold crcStep
  rw [hd2, hm, Nat.testBit_zero]
  have h2 : t = 0 ∨ t = 1 := by omega
  rcases Nat.mod_two_eq_zero_or_one s with h1 | h1 <;> rcases h2 with rfl | rfl <;> simp [h1]
def shiftF (s k j : Nat) : Bool := if j < k then s.testBit (j + 1) else s.testBit j
theorem shiftF_lo (s k : Nat) : shiftF s 0 k = s.testBit k := by unfold shiftF; rw [if_neg (by omega)]
theorem shiftF_hi (s k : Nat) : shiftF s k (k + 1) = s.testBit (k + 1) := by unfold shiftF; rw [if_neg (by omega)]
theorem upd_shift (s k j : Nat) : upd (shiftF s k) k (s.testBit (k + 1)) j = shiftF s (k + 1) j := by
  unfold upd shiftF
  by_cases h : j = k
  · rw [if_pos h, h, if_pos (by omega)]
  · rw [if_neg h]
    by_cases h2 : j < k
    · rw [if_pos h2, if_pos (by omega)]
    · rw [if_neg h2, if_neg (by omega)]
theorem half_bit (s j : Nat) : (s / 2).testBit j = s.testBit (j + 1) := by rw [Nat.testBit_succ]
theorem top_bit (s : Nat) (h : s < 4294967296) (j : Nat) (hj : 32 ≤ j) : s.testBit j = false :=
  Nat.testBit_lt_two_pow (Nat.lt_of_lt_of_le h (by rw [show (4294967296 : Nat) = 2 ^ 32 from rfl]; exact Nat.pow_le_pow_right (by omega) hj))

theorem shift_done (s : Nat) (hs : s < 4294967296) (j : Nat) (hj : j < 32) : upd (shiftF s 31) 31 false j = (s / 2).testBit j := by
  rw [half_bit]
  unfold upd shiftF
  by_cases h : j = 31
  · rw [if_pos h, h, top_bit s hs 32 (by omega)]
  · rw [if_neg h, if_pos (by omega)]

theorem mod_bit_false (m k : Nat) (h : m.testBit k = false) : m % 2 ^ (k + 1) = m % 2 ^ k := by
  rw [Nat.mod_pow_succ]
  rw [Nat.testBit_eq_decide_div_mod_eq] at h
  have : m / 2 ^ k % 2 = 0 := by simp at h; omega
  rw [this]; omega
theorem or_bit_u32 (m k : Nat) (hk : k < 32) (h : m.testBit k = true) : bits .or .u32 ((m : Int) % 2 ^ k) (2 ^ k % 4294967296) = ((m % 2 ^ (k + 1) : Nat) : Int) := by
  rw [Nat.testBit_eq_decide_div_mod_eq] at h
  have h1 : m / 2 ^ k % 2 = 1 := by simpa using h
  rw [Nat.mod_pow_succ, h1, Nat.mul_one]
  have hp : 2 ^ k * 2 ≤ 4294967296 := by
    have : 2 ^ (k + 1) ≤ 2 ^ 32 := Nat.pow_le_pow_right (by omega) (by omega)
    rw [Nat.pow_succ] at this; exact this
  have h0 : 0 < 2 ^ k := Nat.pow_pos (by omega)
  have hlt : m % 2 ^ k < 2 ^ k := Nat.mod_lt _ h0
  have e1 : ((m : Int) % 2 ^ k) = ((m % 2 ^ k : Nat) : Int) := by push_cast; rfl
  have e2 : ((2 : Int) ^ k % 4294967296) = ((2 ^ k : Nat) : Int) := by
    have : ((2 : Int) ^ k) = ((2 ^ k : Nat) : Int) := by push_cast; rfl
    rw [this]; omega
  rw [e1, e2, bits_or_nat]
  have e32 : (2 : Nat) ^ IntKind.u32.bits = 4294967296 := rfl
  rw [e32]
  have e3 : (((m % 2 ^ k : Nat) : Int) % ((4294967296 : Nat) : Int)).toNat = m % 2 ^ k := by omega
  have e4 : (((2 ^ k : Nat) : Int) % ((4294967296 : Nat) : Int)).toNat = 1 * 2 ^ k := by omega
  rw [e3, e4, nat_or_shift _ _ _ hlt, Nat.one_mul, IntWalk.u32_in _ (by omega)]
theorem not_bit (s k : Nat) (hk : k < 32) : (s ^^^ 4294967295).testBit k = !s.testBit k := by
  have e : (4294967295 : Nat) = 2 ^ 32 - 1 := rfl
  rw [Nat.testBit_xor, e, Nat.testBit_two_pow_sub_one]
  simp [hk]

set_option maxRecDepth 4000 in
set_option maxHeartbeats 1000000 in
theorem refsum_any (ao : Option Addr) (cp : Nat) (l : List UInt8) (w : World) (hl : SlB w ao cp l) (hlen : l.length ≤ 1000000) :
    Calls Tryz.prog 44 #[.slice ao l.length cp] w fun e w' => e = .returned (.int .u32 (crcOf l)) ∧ Keep NoF w w' := by
  go_enter Tryz.func44, Tryz.ntmps44
  go_wp2_with fail
  have hw1 : Reg (w.alloc (.cells (regArr fun _ => false) 84)) w.heap.size (fun _ => false) := ⟨_, heap_new _ _⟩
  have hk1 : Keep NoF w (w.alloc (.cells (regArr fun _ => false) 84)) := (Keep.refl _ _).alloc _
  have hB : ∀ B, B = w.heap.size → True := fun _ _ => trivial
  clear hB
  show Code.wp _ _ _ _ (w.alloc (.cells (regArr fun _ => false) 84))
  generalize hB : w.heap.size = B at hw1 ⊢
  generalize w.alloc (.cells (regArr fun _ => false) 84) = w1 at hw1 hk1 ⊢
  have HB := Lib.hid hB; clear hB
  go_loopw [4] (fun i wr => ∃ k : Nat, k ≤ 32 ∧ i = .int .i64 k ∧ Reg wr B (fun j => decide (j < k)) ∧ Keep NoF w wr) (fun i _ => 32 - (intOf i).toNat)
  case atStart => exact ⟨0, by omega, rfl, hw1.congr (fun i _ => by simp), hk1⟩
  case round =>
    obtain ⟨k, hk, rfl, hR, hK⟩ := hrel
    by_cases hlt : k < 32
    · have hc := hR.cell k hlt
      have hf := hR.free k
      have hs := hR.set k true
      have Hs := Lib.hid hs; have HR := Lib.hid hR; have HK := Lib.hid hK
      clear hs hR hK hw1 hk1
      go_wp2_with fail
      go_roundw
      case rel =>
        refine ⟨k + 1, by omega, by go_num, Hs.out.congr (fun j _ => ?_), HK.out.setCell (p := ⟨B, k, none⟩) (fun h => ?_) _⟩
        · unfold upd; by_cases h : j = k
          · subst h; simp
          · rw [if_neg h]; simp; omega
        · have := HB.out; simp only at h; omega
      case measure => simp [intOf]; omega
    · obtain rfl : k = 32 := by omega
      have hR2 : Reg wr B (fun i => (crcBits l 0).testBit i) := hR.congr (fun i hi => by
        have e : (4294967295 : Nat) = 2 ^ 32 - 1 := rfl
        simp only [crcBits, e, Nat.testBit_two_pow_sub_one])
      clear hR hw1 hk1
      have hBlt : B < wr.heap.size := by obtain ⟨T, h⟩ := hR2; exact lt_of_heap h
      have hR3 := hR2.keep ((Keep.refl NoF wr).alloc (.cells polyArr 3)) (fun f => f)
      have hK3 := hK.alloc (.cells polyArr 3)
      have hP3 : Poly (wr.alloc (.cells polyArr 3)) wr.heap.size := ⟨_, heap_new _ _⟩
      have HR := Lib.hid hR3; have HK := Lib.hid hK3; have HP := Lib.hid hP3; clear hR2 hK hR3 hK3 hP3
      go_wp2_with fail
      show Code.wp _ _ _ _ (wr.alloc (.cells polyArr 3))
      generalize wr.alloc (.cells polyArr 3) = w2 at HR HK HP ⊢
      have hne : wr.heap.size ≠ B := by omega
      have hPw : ¬ wr.heap.size < w.heap.size → True := fun _ => trivial
      clear hPw
      generalize wr.heap.size = C at HP hne ⊢
      have Hne := Lib.hid hne; clear hne hBlt
      go_loopw [6] (fun i wx => ∃ n : Nat, n ≤ 8 * l.length ∧ i = .int .i64 n ∧ Reg wx B (fun j => (crcBits l n).testBit j) ∧ Poly wx C ∧ Keep NoF w wx) (fun i _ => 8 * l.length - (intOf i).toNat)
      case atStart => exact ⟨0, by omega, rfl, HR.out, HP.out, HK.out⟩
      case round =>
        obtain ⟨n, hn, rfl, hR, hP, hK⟩ := hrel
        clear HR HP HK
        by_cases hlt : n < 8 * l.length
        · obtain ⟨g, off, rfl, hcell⟩ := (hl.keep hK (fun _ _ f => f)).2.2 (n / 8) (by omega)
          simp only [bval] at hcell
          have hx := l[n / 8].toNat_lt
          have hc0 := hR.cell 0 (by omega)
          have hbit : bitAt l n = l[n / 8].toNat / 2 ^ (n % 8) % 2 := by
            rw [bitAt, List.getD_eq_getElem?_getD, List.getElem?_eq_getElem (by omega), Option.getD_some]
          have hslt := crcBits_lt l n
          have hnext : crcBits l (n + 1) = crcStep (crcBits l n ^^^ bitAt l n) := rfl
          generalize l[n / 8].toNat = x at *
          have hc1 : (bits .and .u8 ((x : Int) / 2 ^ (n % 8)) 1 == 1) = decide (bitAt l n = 1) := by
            have hq : x / 2 ^ (n % 8) < 256 := Nat.lt_of_le_of_lt (Nat.div_le_self _ _) hx
            have e1 : ((x : Int) / 2 ^ (n % 8)) = ((x / 2 ^ (n % 8) : Nat) : Int) := by push_cast; rfl
            have e2 : bits .and .u8 ((x / 2 ^ (n % 8) : Nat) : Int) ((1 : Nat) : Int) = _ := u8_and_nat _ 1 hq (by decide)
            rw [nat_mask1] at e2
            rw [e1]
            have e3 : bits .and .u8 ((x / 2 ^ (n % 8) : Nat) : Int) 1 = ((x / 2 ^ (n % 8) % 2 : Nat) : Int) := e2
            rw [e3, hbit, Bool.eq_iff_iff]
            simp
            omega
          obtain ⟨c, hcd⟩ : ∃ c, c = decide (bitAt l n = 1) := ⟨_, rfl⟩
          rw [← hcd] at hc1
          have hbl := bitAt_lt l n
          generalize hS : crcBits l n = s at *
          obtain ⟨d, hdd⟩ : ∃ d, d = s.testBit 0 := ⟨_, rfl⟩
          rw [← hdd] at hc0
          have hstep : crcBits l (n + 1) = if (!d == c) = true then (s / 2) ^^^ 2197175160 else s / 2 := by
            rw [hnext, hcd, hdd]
            exact crcStep_bit s _ hbl
          have Hstep := Lib.hid hstep; have HS := Lib.hid hslt; have Hcd := Lib.hid hcd; have Hdd := Lib.hid hdd
          have Hl := Lib.hid hl
          have hR0 : Reg wr B (shiftF s 0) := hR.congr (fun i _ => (shiftF_lo s i).symm)
          have HR := Lib.hid hR0; have HP := Lib.hid hP; have HK := Lib.hid hK
          clear hstep hslt hcd hdd hl hR hR0 hP hK hnext hbl hS hbit
          go_wp2_with fail
          go_loopw [9] (fun i wy => ∃ k : Nat, k ≤ 31 ∧ i = .int .i64 k ∧ Reg wy B (shiftF s k) ∧ Poly wy C ∧ Keep NoF w wy) (fun i _ => 31 - (intOf i).toNat)
          case atStart => exact ⟨0, by omega, rfl, HR.out, HP.out, HK.out⟩
          case round =>
            obtain ⟨k, hk, rfl, hR, hP, hK⟩ := hrel
            clear HR HP HK hc0 hcell
            by_cases hlt2 : k < 31
            · have hck := hR.cell (k + 1) (by omega)
              rw [shiftF_hi] at hck
              have hck2 := hR.cell k (by omega)
              have hf := hR.free k
              have hss : Reg (wr.setCell ⟨B, k, none⟩ (.bool (s.testBit (k + 1)))) B (shiftF s (k + 1)) := (hR.set k (s.testBit (k + 1))).congr (fun j _ => upd_shift s k j)
              have Hs := Lib.hid hss; clear hss
              have HP := Lib.hid (hP.set Hne.out k (.bool (s.testBit (k + 1))))
              have HK := Lib.hid hK
              clear hR hP hK
              go_wp2_with fail
              go_roundw
              case rel =>
                exact ⟨k + 1, by omega, by go_num, Hs.out, HP.out, HK.out.setCell (p := ⟨B, k, none⟩) (fun h => by have := HB.out; simp only at h; omega) _⟩
              case measure => simp [intOf]; omega
            · obtain rfl : k = 31 := by omega
              have hf := hR.free 31
              have hc31 := hR.cell 31 (by omega)
              have hR5 : Reg (wr.setCell ⟨B, 31, none⟩ (.bool false)) B (fun j => (s / 2).testBit j) := (hR.set 31 false).congr (fun j hj => shift_done s HS.out j hj)
              have hP5 := hP.set Hne.out 31 (.bool false)
              have hK5 := hK.setCell (p := ⟨B, 31, none⟩) (fun h => by have := HB.out; simp only at h; omega) (.bool false)
              have HR := Lib.hid hR5; have HP := Lib.hid hP5; have HK := Lib.hid hK5
              clear hR hP hK hR5 hP5 hK5
              go_wp2_with fail
              obtain ⟨o, ho⟩ : ∃ o, (!d == c) = o := ⟨_, rfl⟩
              rw [ho]
              have hst2 := Hstep.out
              rw [ho] at hst2
              clear ho hc1 hc31 hf Hstep
              cases o with
              | false =>
                rw [if_neg (by decide)] at hst2
                have Hst := Lib.hid hst2; clear hst2
                refine wp_loop_rounds 1 ?_
                rw [rounds_succ]
                go_wp2_with fail
                go_roundw
                case rel => exact ⟨n + 1, by omega, by go_num, HR.out.congr (fun j _ => by rw [Hst.out]), HP.out, HK.out⟩
                case measure => simp [intOf]; omega
              | true =>
                rw [if_pos rfl] at hst2
                have Hst := Lib.hid hst2; clear hst2
                generalize wr.setCell ⟨B, 31, none⟩ (.bool false) = w3 at HR HP HK ⊢
                go_loopw [10] (fun i wz => ∃ k : Nat, k ≤ 17 ∧ i = .int .i64 k ∧ Reg wz B (flipN (fun j => (s / 2).testBit j) k) ∧ Poly wz C ∧ Keep NoF w wz) (fun i _ => 17 - (intOf i).toNat)
                case atStart => exact ⟨0, by omega, rfl, HR.out, HP.out, HK.out⟩
                case round =>
                  obtain ⟨k, hk, rfl, hR, hP, hK⟩ := hrel
                  clear HR HP HK
                  by_cases hlt3 : k < 17
                  · have hp := polyAt_le k hlt3
                    have hcp := hP.cell k hlt3
                    have hcr := hR.cell (31 - polyAt k) (by omega)
                    have hf := hR.free (31 - polyAt k)
                    have hR6 := hR.set (31 - polyAt k) (!flipN (fun j => (s / 2).testBit j) k (31 - polyAt k))
                    have hP6 := hP.set Hne.out (31 - polyAt k) (.bool (!flipN (fun j => (s / 2).testBit j) k (31 - polyAt k)))
                    have hK6 := hK.setCell (p := ⟨B, 31 - polyAt k, none⟩) (fun h => by have := HB.out; simp only at h; omega) (.bool (!flipN (fun j => (s / 2).testBit j) k (31 - polyAt k)))
                    have hR7 : Reg (wr.setCell ⟨B, 31 - polyAt k, none⟩ (.bool (!flipN (fun j => (s / 2).testBit j) k (31 - polyAt k)))) B (flipN (fun j => (s / 2).testBit j) (k + 1)) := hR6
                    have HR := Lib.hid hR7; have HP := Lib.hid hP6; have HK := Lib.hid hK6
                    clear hR hP hK hR6 hP6 hK6 hR7
                    generalize flipN (fun j => (s / 2).testBit j) k (31 - polyAt k) = v at *
                    generalize polyAt k = p at *
                    go_wp2_with fail
                    go_region
                    go_wp2_with fail
                    go_roundw
                    case rel => exact ⟨k + 1, by omega, by go_num, HR.out, HP.out, HK.out.drew⟩
                    case measure => simp [intOf]; omega
                  · obtain rfl : k = 17 := by omega
                    have hR6 : Reg wr B (fun j => (crcBits l (n + 1)).testBit j) := hR.congr (fun j hj => by
                      rw [flipN_all _ j hj, Hst.out, Nat.testBit_xor])
                    have HR := Lib.hid hR6; have HP := Lib.hid hP; have HK := Lib.hid hK
                    clear hR hP hK hR6
                    go_wp2_with fail
                    go_roundw
                    case rel => exact ⟨n + 1, by omega, by go_num, HR.out, HP.out, HK.out⟩
                    case measure => simp [intOf]; omega
        · obtain rfl : n = 8 * l.length := by omega
          have hfin := crcOf_bits l
          have hslt := crcBits_lt l (8 * l.length)
          generalize crcBits l (8 * l.length) = s at *
          have HF := Lib.hid hfin
          have HK := Lib.hid hK
          clear hP hK hn hfin
          go_wp2_with fail
          go_loop [11, 12] (fun acc i => ∃ k : Nat, k ≤ 32 ∧ i = .int .i64 k ∧ acc = .int .u32 (((s ^^^ 4294967295) % 2 ^ k : Nat) : Int)) (fun _ i => 32 - (intOf i).toNat)
          case atStart => exact ⟨0, by omega, rfl, by rw [Nat.pow_zero, Nat.mod_one]; rfl⟩
          case round =>
            obtain ⟨k, hk, rfl, rfl⟩ := hrel
            by_cases hlt4 : k < 32
            · have hck := hR.cell k hlt4
              obtain ⟨v, hv⟩ : ∃ v, v = s.testBit k := ⟨_, rfl⟩
              rw [← hv] at hck
              have hnb := not_bit s k hlt4
              rw [← hv] at hnb
              have HR := Lib.hid hR; have Hs := Lib.hid hslt
              clear hv hR hslt
              cases v with
              | true =>
                have hm := mod_bit_false _ _ hnb
                have Hm := Lib.hid hm
                clear hnb hm
                go_wp2_with fail
                go_round
                case rel => exact ⟨k + 1, by omega, by go_num, by rw [Hm.out]⟩
                case measure => simp [intOf]; omega
              | false =>
                have hm := or_bit_u32 _ k hlt4 hnb
                clear hnb
                go_wp2_with fail
                go_round
                case rel => exact ⟨k + 1, by omega, by go_num, rfl⟩
                case measure => simp [intOf]; omega
            · obtain rfl : k = 32 := by omega
              go_wp2_with fail
              go_ret
              have hm := xor_lt32 hslt (show 4294967295 < 4294967296 by decide)
              rw [HF.out]
              refine ⟨congrArg (fun z : Int => Ending.returned (.int .u32 z)) ?_, HK.out⟩
              generalize s ^^^ 4294967295 = m at hm
              omega

/-! ### the same contracts, a slice's length by whatever name -/
theorem of_at (ao : Option Addr) (n cp : Nat) (l : List UInt8) (w : World) (hl : SlB w ao cp l) (hn : l.length = n) :
    Calls Tryz.prog 55 #[.slice ao n cp] w fun e w' => e = .returned (.int .u32 (crcOf l)) ∧ w = w' := by subst hn; exact of_any ao cp l w hl
theorem on_at (s : Nat) (ao : Option Addr) (n cp : Nat) (l : List UInt8) (w : World) (hs : s < 4294967296) (hl : SlB w ao cp l) (hn : l.length = n) :
    Calls Tryz.prog 81 #[.int .u32 s, .slice ao n cp] w fun e w' => e = .returned (.int .u32 (crcOn s l)) ∧ w = w' := by subst hn; exact on_any s ao cp l w hs hl
theorem refsum_at (ao : Option Addr) (n cp : Nat) (l : List UInt8) (w : World) (hl : SlB w ao cp l) (hn : l.length = n) (hlen : n ≤ 1000000) :
    Calls Tryz.prog 44 #[.slice ao n cp] w fun e w' => e = .returned (.int .u32 (crcOf l)) ∧ Keep NoF w w' := by subst hn; exact refsum_any ao cp l w hl hlen
theorem short_at (ao : Option Addr) (m cp : Nat) (l : List UInt8) (n : Int) (w : World) (hl : SlB w ao cp l) (hm : l.length = m) (hn0 : 0 ≤ n) (hn : n ≤ 1000) :
    Calls Tryz.prog 14 #[.slice ao m cp, .int .i64 n] w fun e w' =>
      ∃ v, e = .returned v ∧ OwnB w' v (l.take n.toNat) ∧ Keep NoF w w' ∧ ∀ k, v.ownBlock = some k → w.heap.size ≤ k := by
  subst hm
  have := short_any ao cp l n.toNat w hl (by omega)
  rwa [Int.toNat_of_nonneg hn0] at this

/-- Behind an append of bytes. -/
theorem OwnB.of_app {w : World} {v : Value} {n m : Nat} {xs news : List Value} {l1 l2 : List UInt8} (h : w.ownsRow 0 5 1 v (n + m) (xs ++ news)) (hn : n = l1.length) (hm : m = l2.length) (hx : xs = bvs l1) (hy : news = bvs l2) : OwnB w v (l1 ++ l2) := by
  subst hn hm hx hy
  rw [OwnB, List.length_append, bvs_append]; exact h

theorem OwnB.src {P : Program} {w : World} {ao : Option Addr} {cp : Nat} {l : List UInt8} {n : Nat} (h : SlB w ao cp l) (hn : l.length = n) {t e : TypeId} (ht : P.underlying t = some (.slice e)) :
    Src P 1 t (.slice ao n cp) n (bvs l) w := by subst hn; exact src_slb h ht

/-- A step of the call's own: nothing that was there changed, but what is own at v. -/
theorem Keep.own {w w' : World} {v : Value} {B : Nat} {w0 : World} (h : w.grownBy w' v.ownBlock) (hv : ∀ k, v.ownBlock = some k → B ≤ k) (h0 : Keep NoF w0 w) (hB : w0.heap.size ≤ B) : Keep NoF w0 w' :=
  h0.grown h (fun k hk e => by have := hv k e; omega)

theorem crcOn_append (s : Nat) (a b : List UInt8) : crcOn (crcOn s a) b = crcOn s (a ++ b) := by
  simp only [crcOn, Nat.xor_assoc, Nat.xor_self, Nat.xor_zero, List.foldl_append]
theorem crcOn_of (a b : List UInt8) : crcOn (crcOf a) b = crcOf (a ++ b) := crcOn_append 0 a b

theorem SlB.sub {w : World} {ao : Option Addr} {cp : Nat} {l : List UInt8} (h : SlB w ao cp l) (i n : Nat) (hi : i + n ≤ l.length) :
    SlB w (if cp = i then ao else ao.map (·.add i)) (cp - i) ((l.drop i).take n) := (h.drop i (by omega)).take n
theorem sub_length (l : List UInt8) (i n : Nat) (hi : i + n ≤ l.length) : ((l.drop i).take n).length = n := by
  rw [List.length_take, List.length_drop]; omega
theorem take_sub (l : List UInt8) (i n : Nat) : l.take i ++ (l.drop i).take n = l.take (i + n) := by
  rw [List.take_add]

/-- make of one-cell elements. -/
theorem wpList_mk {P : Program} {w : World} {ops : Array Oper} {rest : List Oper} {o : Oper} {a : Act} {Q : Exit → Act → World → Prop}
    (t e : TypeId) (z : Value) (bytes : Nat) (ht : P.underlying t = some (.slice e)) (hinfo : (P.info? e).map (fun i => (i.zero, i.size, i.bytes)) = some (some z, 1, bytes)) (hz1 : z.cells = #[z])
    (hg : o.guard = none) {l c : Operand} (hop : o.op = Op.makeSlice t l c) {kl kc : IntKind} (n : Nat) (hl : a.eval l = .int kl (n : Int)) (hc : a.eval c = .int kc (n : Int)) (hb : bytes * n ≤ 281474976710656) (hm : n ≤ maxLen)
    (hK : ∀ w', w'.ownsRow 0 e 1 (.slice (some ⟨w.heap.size, 0, none⟩) n n) n (List.replicate n z) → w.grownBy w' none → wpList P ops Q rest (a.put o.dst (.slice (some ⟨w.heap.size, 0, none⟩) n n)) w') :
    wpList P ops Q (o :: rest) a w := by
  obtain ⟨i, hi, hz, hsize, hby⟩ := info_parts hinfo
  refine wpList_make_full w hg l c t hop 0 e i z 1 ht hi hz hsize kl kc n n n hl hc rfl rfl (by rw [hby]; exact hb) hm (Nat.zero_le _) ?_
  intro w' h1 h2
  rw [hz1, Nat.mul_one, toList_madeCells_one] at h1
  exact hK w' h1 h2
theorem bvs_replicate (n : Nat) (x : UInt8) : bvs (List.replicate n x) = List.replicate n (bval x) := by simp [bvs]
theorem SlB.cellD {w : World} {ao : Option Addr} {cp : Nat} {l : List UInt8} (h : SlB w ao cp l) (i : Nat) (hi : i < l.length) :
    ∃ g off, ao = some ⟨g, off, none⟩ ∧ w.cell? ⟨g, off + i, none⟩ = some (.int .u8 ((l.getD i 0).toNat : Int)) := by
  obtain ⟨g, off, e, hc⟩ := h.2.2 i hi
  refine ⟨g, off, e, ?_⟩
  rw [hc, List.getD_eq_getElem?_getD, List.getElem?_eq_getElem hi, Option.getD_some]; rfl
theorem line_set (d : List UInt8) (n k : Nat) (hn : d.length = n) (hk : k < n) :
    (bvs (d.take k ++ List.replicate (n - k) 0)).set k (.int .u8 ((d.getD k 0).toNat : Int)) = bvs (d.take (k + 1) ++ List.replicate (n - (k + 1)) 0) := by
  have hkd : k < d.length := by omega
  have e : (Value.int .u8 ((d.getD k 0).toNat : Int)) = bval d[k] := by
    rw [List.getD_eq_getElem?_getD, List.getElem?_eq_getElem hkd, Option.getD_some]; rfl
  rw [e, bvs, ← List.map_set, bvs]
  congr 1
  have hl : (d.take k).length = k := by rw [List.length_take]; omega
  rw [List.set_append_right _ _ (by omega), hl, Nat.sub_self]
  rw [show n - k = (n - (k + 1)) + 1 by omega, List.replicate_succ, List.set_cons_zero]
  rw [List.take_succ_eq_append_getElem hkd, List.append_assoc, List.singleton_append]
theorem xor3_getD (l1 l2 l3 : List UInt8) (h2 : l1.length = l2.length) (h3 : l1.length = l3.length) (i : Nat) (h : i < l1.length) : (xor3 l1 l2 l3).getD i 0 = l1.getD i 0 ^^^ l2.getD i 0 ^^^ l3.getD i 0 := by
  have hl := xor3_length l1 l2 l3 h2 h3
  simp only [List.getD_eq_getElem?_getD]
  rw [List.getElem?_eq_getElem (by omega), List.getElem?_eq_getElem h, List.getElem?_eq_getElem (by omega), List.getElem?_eq_getElem (by omega)]
  exact xor3_get l1 l2 l3 i (by omega) h (by omega) (by omega)
theorem SlB.drewN {w : World} {ao : Option Addr} {cp : Nat} {l : List UInt8} (h : SlB w ao cp l) (n : Nat) : SlB (w.drewN n) ao cp l := h
theorem SlB.drew {w : World} {ao : Option Addr} {cp : Nat} {l : List UInt8} (h : SlB w ao cp l) : SlB w.drew ao cp l := h
end Go.Proofs.YtlabhbjampkhpaaGreat
