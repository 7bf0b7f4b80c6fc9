/- The bag's New, Kinds, Len, At, Each, Count. -/
import Derived.Test.YtdbgplnjppaimaaGreatAddS
open Go Go.RowKit Go.Maps Go.Sort Go.Shelf
namespace Go.Proofs.YtdbgplnjppaimaaGreat
def NewBagS (w : World) (g : Nat) (cb : Array Value) (e : Ending) (w' : World) : Prop :=
  ∃ b, e = .returned (.pointer (some ⟨b, 0, none⟩)) ∧ BagS w' b g cb (.slice none 0 0) [] ∧ Keep NoF w w' ∧ w.heap.size ≤ b
theorem equalInfS {P : Program} (w : World) (d : Nat) (t : TypeId) (g : Nat) (cb : Array Value) {ps rs : Array TypeId} {v : Bool} (h : P.underlying t = some (.func ps rs v)) : (Op.equalIn (d + 1) t (.func (.func g) #[] cb) .nilFunc).run P w = .ok false w := by
  simp [Op.equalIn, run_underlying h]
theorem equalInnS {P : Program} (w : World) (d : Nat) (t : TypeId) {ps rs : Array TypeId} {v : Bool} (h : P.underlying t = some (.func ps rs v)) : (Op.equalIn (d + 1) t .nilFunc .nilFunc).run P w = .ok true w := by
  simp [Op.equalIn, run_underlying h]
theorem eqfS (g : Nat) (cb : Array Value) (w : World) : (binOp .eql 87 (.func (.func g) #[] cb) Value.nilFunc).run Tryz.prog w = .ok (.bool false) w := by
  simp only [binOp]
  simp [Op.equal, Op.maxDepth, equalInfS w 9999 87 g cb Tryz.underlying87]
theorem eqnS (w : World) : (binOp .eql 87 Value.nilFunc Value.nilFunc).run Tryz.prog w = .ok (.bool true) w := by
  simp only [binOp]
  simp [Op.equal, Op.maxDepth, equalInnS w 9999 87 Tryz.underlying87]
set_option maxRecDepth 4000 in
theorem newS_any (g : Nat) (cb : Array Value) (w : World) : Calls Tryz.prog 54 #[.func (.func g) #[] cb] w (NewBagS w g cb) := by
  have HR := Lib.hid (heap_new w (.cells #[.func (.func g) #[] cb, .slice none 0 0] 109 (0, 0)))
  have HK := Lib.hid ((Keep.refl NoF w).alloc (.cells #[.func (.func g) #[] cb, .slice none 0 0] 109 (0, 0)))
  have hf := eqfS g cb w
  go_enter Tryz.func54, Tryz.ntmps54
  go_wp2_with fail
  go_ret
  exact ⟨_, rfl, ⟨HR.out, World.ownsRow_nil _ _ _ _, nofun⟩, HK.out, Nat.le_refl _⟩
theorem kindsS_any (b g : Nat) (cb : Array Value) (v : Value) (l : List (ByteArray × Int)) (w : World) (h : BagS w b g cb v l) :
    Calls Tryz.prog 60 #[.pointer (some ⟨b, 0, none⟩)] w fun e w' => e = .returned (.int .i64 l.length) ∧ w' = w := by
  obtain ⟨ao, cp, rfl⟩ := row_slice h.own
  have c1 := cell_of_heap h.row 1
  simp at c1
  generalize l.length = N at c1 ⊢
  clear h
  go_enter Tryz.func60, Tryz.ntmps60
  go_wp2_with fail
  go_ret
  exact ⟨rfl, rfl⟩
def sumS (l : List (ByteArray × Int)) : Int := (l.map (·.2)).sum
theorem sumS_bounds : ∀ (l : List (ByteArray × Int)), (∀ p ∈ l, 0 ≤ p.2 ∧ p.2 ≤ 1000000) → 0 ≤ sumS l ∧ sumS l ≤ 1000000 * l.length
  | [], _ => by simp [sumS]
  | p :: l, h => by
    have h1 := h p (by simp)
    have h2 := sumS_bounds l (fun q hq => h q (List.mem_cons_of_mem _ hq))
    simp [sumS] at h2 ⊢
    omega
theorem sumS_snoc (l : List (ByteArray × Int)) (k : Nat) (hk : k < l.length) : sumS (l.take (k + 1)) = sumS (l.take k) + l[k].2 := by
  unfold sumS
  rw [List.take_succ_eq_append_getElem hk, List.map_append, List.sum_append]
  simp
set_option maxHeartbeats 1000000 in
theorem lenS_any (b g : Nat) (cb : Array Value) (v : Value) (l : List (ByteArray × Int)) (w : World) (h : BagS w b g cb v l) (hn : l.length ≤ 1000000) (hb : ∀ p ∈ l, 0 ≤ p.2 ∧ p.2 ≤ 1000000) :
    Calls Tryz.prog 59 #[.pointer (some ⟨b, 0, none⟩)] w fun e w' => e = .returned (.int .i64 (sumS l)) ∧ w' = w := by
  have hk := kindsS_any b g cb v l w h
  obtain ⟨ao, cp, rfl⟩ := row_slice h.own
  have c1 := cell_of_heap h.row 1
  simp at c1
  have hs := row_slPS rfl h.own
  obtain ⟨N, hN⟩ : ∃ N, l.length = N := ⟨_, rfl⟩
  rw [hN] at hk c1 hn
  have HK := Lib.hid hk; have HS := Lib.hid hs; have HN := Lib.hid hN; have HB := Lib.hid hb
  clear hk h hs hN hb
  go_enter Tryz.func59, Tryz.ntmps59
  go_wp2_with fail
  refine HK.out.mono ?_
  rintro e w' ⟨rfl, rfl⟩
  go_wp2_with fail
  go_loopw [3, 7] (fun sv iv wr => ∃ k : Nat, k ≤ N ∧ iv = .int .i64 k ∧ sv = .int .i64 (sumS (l.take k)) ∧ wr = w') (fun _ iv _ => N - (intOf iv).toNat)
  case atStart => exact ⟨0, Nat.zero_le _, rfl, rfl, rfl⟩
  case round =>
    obtain ⟨k, hk, rfl, rfl, rfl⟩ := hrel
    by_cases hlt : k < N
    · have hlt2 : (k : Int) < N := by omega
      have hlt3 : decide (N ≤ k) = false := by simp; omega
      have hkl : k < l.length := by rw [HN.out]; exact hlt
      obtain ⟨gr, or, rfl, d0, d1⟩ := HS.out.2.2 k hkl
      have hsn := sumS_snoc l k hkl
      have hsb := sumS_bounds (l.take k) (fun p hp => HB.out p (List.mem_of_mem_take hp))
      have hll : (l.take k).length = k := by rw [List.length_take, Nat.min_eq_left (Nat.le_of_lt hkl)]
      rw [hll] at hsb
      have hmb := HB.out l[k] (List.getElem_mem hkl)
      generalize l[k] = x at d0 d1 hsn hmb
      have HSN := Lib.hid hsn
      generalize sumS (l.take k) = s at hsb HSN ⊢
      clear hsn hll d0
      go_wp2_with fail
      go_roundw
      case rel => exact ⟨k + 1, by omega, by go_num, by rw [HSN.out], trivial⟩
      case measure => simp [intOf]; omega
    · have hlt2 : ¬ (k : Int) < N := by omega
      have htk : l.take k = l := List.take_of_length_le (by rw [HN.out]; omega)
      obtain ⟨s, hs⟩ : ∃ s, sumS l = s := ⟨_, rfl⟩
      rw [htk, hs]
      have HS2 := Lib.hid hs
      clear hs
      go_wp2_with fail
      go_ret
      exact ⟨by rw [HS2.out]; rfl, rfl⟩
def expS (l : List (ByteArray × Int)) : List (ByteArray) := l.flatMap fun p => List.replicate p.2.toNat p.1
def atS (l : List (ByteArray × Int)) (i : Int) : Option (ByteArray) := if i < 0 then none else (expS l)[i.toNat]?
theorem expS_drop (l : List (ByteArray × Int)) (k : Nat) (hk : k < l.length) : expS (l.drop k) = List.replicate l[k].2.toNat l[k].1 ++ expS (l.drop (k + 1)) := by
  rw [List.drop_eq_getElem_cons hk]; rfl
set_option maxHeartbeats 1000000 in
set_option maxRecDepth 4000 in
theorem atS_any (b g : Nat) (cb : Array Value) (v : Value) (l : List (ByteArray × Int)) (i : Int) (w : World) (h : BagS w b g cb v l) (hn : l.length ≤ 1000000) (hb : ∀ p ∈ l, 0 ≤ p.2 ∧ p.2 ≤ 1000000) (hi : -9223372036854775808 ≤ i ∧ i ≤ 9223372036854775807) :
    Calls Tryz.prog 58 #[.pointer (some ⟨b, 0, none⟩), .int .i64 i] w fun e w' => e = .returned (.tuple #[.string ((atS l i).getD ByteArray.empty), .bool (atS l i).isSome]) ∧ Keep NoF w w' := by
  obtain ⟨ao, cp, rfl⟩ := row_slice h.own
  have c1 := cell_of_heap h.row 1
  simp at c1
  have hs := row_slPS rfl h.own
  obtain ⟨N, hN⟩ : ∃ N, l.length = N := ⟨_, rfl⟩
  rw [hN] at c1 hn
  have HS := Lib.hid hs; have HN := Lib.hid hN; have HB := Lib.hid hb
  clear h hs hN hb
  by_cases hneg : i < 0
  · have hat : atS l i = none := if_pos hneg
    rw [hat]
    have hd : decide (i < 0) = true := by simp [hneg]
    go_enter Tryz.func58, Tryz.ntmps58
    go_wp2_with fail
    go_ret2
    exact ⟨rfl, Keep.refl _ _⟩
  · have hd : decide (i < 0) = false := by simp [hneg]
    obtain ⟨i0, rfl⟩ : ∃ i0 : Nat, i = i0 := ⟨i.toNat, by omega⟩
    have HAT : Hid (atS l i0 = (expS l)[i0]?) := Lib.hid (by unfold atS; rw [if_neg hneg]; rfl)
    clear hneg
    go_enter Tryz.func58, Tryz.ntmps58
    go_wp2_with fail
    go_loopw [1, 21] (fun iv kv wr => ∃ k j : Nat, k ≤ N ∧ kv = .int .i64 k ∧ iv = .int .i64 j ∧ j ≤ i0 ∧ (expS l)[i0]? = (expS (l.drop k))[j]? ∧ Keep NoF w wr) (fun _ kv _ => N - (intOf kv).toNat)
    case atStart => exact ⟨0, i0, Nat.zero_le _, rfl, rfl, Nat.le_refl _, rfl, Keep.refl _ _⟩
    case round =>
      obtain ⟨k, j, hk, rfl, rfl, hj, he, hkw⟩ := hrel
      have HE := Lib.hid he; have KW := Lib.hid hkw
      clear he
      by_cases hlt : k < N
      · have hlt2 : (k : Int) < N := by omega
        have hlt3 : decide (N ≤ k) = false := by simp; omega
        have hkl : k < l.length := by rw [HN.out]; exact hlt
        obtain ⟨gr, or, rfl, d0, d1⟩ := (HS.out.keep hkw (fun _ _ f => f)).2.2 k hkl
        have HD := Lib.hid (expS_drop l k hkl)
        have hmb := HB.out l[k] (List.getElem_mem hkl)
        generalize l[k] = x at d0 d1 HD hmb
        obtain ⟨x, m⟩ := x
        dsimp only at d0 d1 HD hmb
        clear hkw
        by_cases hjm : (j : Int) < m
        · have HV : Hid ((expS l)[i0]? = some x) := Lib.hid (by
            rw [HE.out, HD.out, List.getElem?_append_left (by simp; omega), List.getElem?_replicate]
            simp; omega)
          go_wp2_with fail
          go_ret2
          exact ⟨by rw [HAT.out, HV.out]; rfl, KW.out.alloc _⟩
        · have hjm2 : m ≤ j := by omega
          obtain ⟨m, rfl⟩ : ∃ m0 : Nat, m = m0 := ⟨m.toNat, by omega⟩
          have hmj : m ≤ j := by omega
          have HV : Hid ((expS l)[i0]? = (expS (l.drop (k + 1)))[j - m]?) := Lib.hid (by
            rw [HE.out, HD.out, List.getElem?_append_right (by simp; omega)]
            simp)
          go_wp2_with fail
          go_roundw
          case rel => exact ⟨k + 1, j - m, by omega, by go_num, by rw [show ((j : Int) - (m : Int)) = ((j - m : Nat) : Int) by omega], by omega, HV.out, KW.out.alloc _⟩
          case measure => simp [intOf]; omega
      · have hlt2 : ¬ (k : Int) < N := by omega
        have HV : Hid ((expS l)[i0]? = none) := Lib.hid (by
          rw [HE.out, List.drop_eq_nil_of_le (by rw [HN.out]; omega)]; rfl)
        clear hkw
        go_wp2_with fail
        go_ret2
        exact ⟨by rw [HAT.out, HV.out]; rfl, KW.out⟩
end Go.Proofs.YtdbgplnjppaimaaGreat
