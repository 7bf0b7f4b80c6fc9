/- The bag's New, Kinds, Len, At, Each, Count. -/
import Derived.Test.YtidpfkehmokdfaaAddI
open Go Go.RowKit
namespace Go.Proofs.Ytidpfkehmokdfaa
def NewBagI (w : World) (g : Nat) (cb : Array Value) (e : Ending) (w' : World) : Prop :=
  ∃ b, e = .returned (.pointer (some ⟨b, 0, none⟩)) ∧ BagI w' b g cb (.slice none 0 0) [] ∧ Keep NoF w w' ∧ w.heap.size ≤ b
theorem equalInf {P : Program} (w : World) (d : Nat) (t : TypeId) (g : Nat) (cb : Array Value) {ps rs : Array TypeId} {v : Bool} (h : P.underlying t = some (.func ps rs v)) : (Op.equalIn (d + 1) t (.func (.func g) #[] cb) .nilFunc).run P w = .ok false w := by
  simp [Op.equalIn, run_underlying h]
theorem equalInn {P : Program} (w : World) (d : Nat) (t : TypeId) {ps rs : Array TypeId} {v : Bool} (h : P.underlying t = some (.func ps rs v)) : (Op.equalIn (d + 1) t .nilFunc .nilFunc).run P w = .ok true w := by
  simp [Op.equalIn, run_underlying h]
theorem eqfI (g : Nat) (cb : Array Value) (w : World) : (binOp .eql 26 (.func (.func g) #[] cb) Value.nilFunc).run Try.prog w = .ok (.bool false) w := by
  simp only [binOp]
  simp [Op.equal, Op.maxDepth, equalInf w 9999 26 g cb Try.underlying26]
theorem eqnI (w : World) : (binOp .eql 26 Value.nilFunc Value.nilFunc).run Try.prog w = .ok (.bool true) w := by
  simp only [binOp]
  simp [Op.equal, Op.maxDepth, equalInn w 9999 26 Try.underlying26]
set_option maxRecDepth 4000 in
theorem newI_any (g : Nat) (cb : Array Value) (w : World) : Calls Try.prog 13 #[.func (.func g) #[] cb] w (NewBagI w g cb) := by
  have HR := Lib.hid (heap_new w (.cells #[.func (.func g) #[] cb, .slice none 0 0] 67 (0, 0)))
  have HK := Lib.hid ((Keep.refl NoF w).alloc (.cells #[.func (.func g) #[] cb, .slice none 0 0] 67 (0, 0)))
  have hf := eqfI g cb w
  go_enter Try.func13, Try.ntmps13
  go_wp2_with fail
  go_ret
  exact ⟨_, rfl, ⟨HR.out, World.ownsRow_nil _ _ _ _, nofun⟩, HK.out, Nat.le_refl _⟩
set_option maxRecDepth 4000 in
theorem newI_nil (w : World) : Calls Try.prog 13 #[Value.nilFunc] w fun e w' => e = .returned (.pointer none) ∧ w' = w := by
  have hf := eqnI w
  go_enter Try.func13, Try.ntmps13
  go_wp2_with fail
  go_ret
  exact ⟨rfl, rfl⟩
theorem kindsI_any (b g : Nat) (cb : Array Value) (v : Value) (l : List (Int × Int)) (w : World) (h : BagI w b g cb v l) :
    Calls Try.prog 18 #[.pointer (some ⟨b, 0, none⟩)] w fun e w' => e = .returned (.int .i64 l.length) ∧ w' = w := by
  obtain ⟨ao, cp, rfl⟩ := row_slice h.own
  have c1 := cell_of_heap h.row 1
  simp at c1
  generalize l.length = N at c1 ⊢
  clear h
  go_enter Try.func18, Try.ntmps18
  go_wp2_with fail
  go_ret
  exact ⟨rfl, rfl⟩
def sumI (l : List (Int × Int)) : Int := (l.map (·.2)).sum
theorem sumI_bounds : ∀ (l : List (Int × Int)), (∀ p ∈ l, 0 ≤ p.2 ∧ p.2 ≤ 1000000) → 0 ≤ sumI l ∧ sumI l ≤ 1000000 * l.length
  | [], _ => by simp [sumI]
  | p :: l, h => by
    have h1 := h p (by simp)
    have h2 := sumI_bounds l (fun q hq => h q (List.mem_cons_of_mem _ hq))
    simp [sumI] at h2 ⊢
    omega
theorem sumI_snoc (l : List (Int × Int)) (k : Nat) (hk : k < l.length) : sumI (l.take (k + 1)) = sumI (l.take k) + l[k].2 := by
  unfold sumI
  rw [List.take_succ_eq_append_getElem hk, List.map_append, List.sum_append]
  simp
set_option maxHeartbeats 1000000 in
theorem lenI_any (b g : Nat) (cb : Array Value) (v : Value) (l : List (Int × Int)) (w : World) (h : BagI w b g cb v l) (hn : l.length ≤ 1000000) (hb : ∀ p ∈ l, 0 ≤ p.2 ∧ p.2 ≤ 1000000) :
    Calls Try.prog 17 #[.pointer (some ⟨b, 0, none⟩)] w fun e w' => e = .returned (.int .i64 (sumI l)) ∧ w' = w := by
  have hk := kindsI_any b g cb v l w h
  obtain ⟨ao, cp, rfl⟩ := row_slice h.own
  have c1 := cell_of_heap h.row 1
  simp at c1
  have hs := row_slPI rfl h.own
  obtain ⟨N, hN⟩ : ∃ N, l.length = N := ⟨_, rfl⟩
  rw [hN] at hk c1 hn
  have HK := Lib.hid hk; have HS := Lib.hid hs; have HN := Lib.hid hN; have HB := Lib.hid hb
  clear hk h hs hN hb
  go_enter Try.func17, Try.ntmps17
  go_wp2_with fail
  refine HK.out.mono ?_
  rintro e w' ⟨rfl, rfl⟩
  go_wp2_with fail
  go_loopw [3, 7] (fun sv iv wr => ∃ k : Nat, k ≤ N ∧ iv = .int .i64 k ∧ sv = .int .i64 (sumI (l.take k)) ∧ wr = w') (fun _ iv _ => N - (intOf iv).toNat)
  case atStart => exact ⟨0, Nat.zero_le _, rfl, rfl, rfl⟩
  case round =>
    obtain ⟨k, hk, rfl, rfl, rfl⟩ := hrel
    by_cases hlt : k < N
    · have hlt2 : (k : Int) < N := by omega
      have hlt3 : decide (N ≤ k) = false := by simp; omega
      have hkl : k < l.length := by rw [HN.out]; exact hlt
      obtain ⟨gr, or, rfl, d0, d1⟩ := HS.out.2.2 k hkl
      have hsn := sumI_snoc l k hkl
      have hsb := sumI_bounds (l.take k) (fun p hp => HB.out p (List.mem_of_mem_take hp))
      have hll : (l.take k).length = k := by rw [List.length_take, Nat.min_eq_left (Nat.le_of_lt hkl)]
      rw [hll] at hsb
      have hmb := HB.out l[k] (List.getElem_mem hkl)
      generalize l[k] = x at d0 d1 hsn hmb
      have HSN := Lib.hid hsn
      generalize sumI (l.take k) = s at hsb HSN ⊢
      clear hsn hll d0
      go_wp2_with fail
      go_roundw
      case rel => exact ⟨k + 1, by omega, by go_num, by rw [HSN.out], trivial⟩
      case measure => simp [intOf]; omega
    · have hlt2 : ¬ (k : Int) < N := by omega
      have htk : l.take k = l := List.take_of_length_le (by rw [HN.out]; omega)
      obtain ⟨s, hs⟩ : ∃ s, sumI l = s := ⟨_, rfl⟩
      rw [htk, hs]
      have HS2 := Lib.hid hs
      clear hs
      go_wp2_with fail
      go_ret
      exact ⟨by rw [HS2.out]; rfl, rfl⟩
def expI (l : List (Int × Int)) : List Int := l.flatMap fun p => List.replicate p.2.toNat p.1
def atI (l : List (Int × Int)) (i : Int) : Option Int := if i < 0 then none else (expI l)[i.toNat]?
theorem expI_drop (l : List (Int × Int)) (k : Nat) (hk : k < l.length) : expI (l.drop k) = List.replicate l[k].2.toNat l[k].1 ++ expI (l.drop (k + 1)) := by
  rw [List.drop_eq_getElem_cons hk]; rfl
set_option maxHeartbeats 1000000 in
set_option maxRecDepth 4000 in
theorem atI_any (b g : Nat) (cb : Array Value) (v : Value) (l : List (Int × Int)) (i : Int) (w : World) (h : BagI w b g cb v l) (hn : l.length ≤ 1000000) (hb : ∀ p ∈ l, 0 ≤ p.2 ∧ p.2 ≤ 1000000) (hi : -9223372036854775808 ≤ i ∧ i ≤ 9223372036854775807) :
    Calls Try.prog 16 #[.pointer (some ⟨b, 0, none⟩), .int .i64 i] w fun e w' => e = .returned (.tuple #[.int .i64 ((atI l i).getD 0), .bool (atI l i).isSome]) ∧ Keep NoF w w' := by
  obtain ⟨ao, cp, rfl⟩ := row_slice h.own
  have c1 := cell_of_heap h.row 1
  simp at c1
  have hs := row_slPI rfl h.own
  obtain ⟨N, hN⟩ : ∃ N, l.length = N := ⟨_, rfl⟩
  rw [hN] at c1 hn
  have HS := Lib.hid hs; have HN := Lib.hid hN; have HB := Lib.hid hb
  clear h hs hN hb
  by_cases hneg : i < 0
  · have hat : atI l i = none := if_pos hneg
    rw [hat]
    have hd : decide (i < 0) = true := by simp [hneg]
    go_enter Try.func16, Try.ntmps16
    go_wp2_with fail
    go_ret2
    exact ⟨rfl, Keep.refl _ _⟩
  · have hd : decide (i < 0) = false := by simp [hneg]
    obtain ⟨i0, rfl⟩ : ∃ i0 : Nat, i = i0 := ⟨i.toNat, by omega⟩
    have HAT : Hid (atI l i0 = (expI l)[i0]?) := Lib.hid (by unfold atI; rw [if_neg hneg]; rfl)
    clear hneg
    go_enter Try.func16, Try.ntmps16
    go_wp2_with fail
    go_loopw [1, 21] (fun iv kv wr => ∃ k j : Nat, k ≤ N ∧ kv = .int .i64 k ∧ iv = .int .i64 j ∧ j ≤ i0 ∧ (expI l)[i0]? = (expI (l.drop k))[j]? ∧ Keep NoF w wr) (fun _ kv _ => N - (intOf kv).toNat)
    case atStart => exact ⟨0, i0, Nat.zero_le _, rfl, rfl, Nat.le_refl _, rfl, Keep.refl _ _⟩
    case round =>
      obtain ⟨k, j, hk, rfl, rfl, hj, he, hkw⟩ := hrel
      have HE := Lib.hid he; have KW := Lib.hid hkw
      clear he
      by_cases hlt : k < N
      · have hlt2 : (k : Int) < N := by omega
        have hlt3 : decide (N ≤ k) = false := by simp; omega
        have hkl : k < l.length := by rw [HN.out]; exact hlt
        obtain ⟨gr, or, rfl, d0, d1⟩ := (HS.out.keep hkw (fun _ _ f => f)).2.2 k hkl
        have HD := Lib.hid (expI_drop l k hkl)
        have hmb := HB.out l[k] (List.getElem_mem hkl)
        generalize l[k] = x at d0 d1 HD hmb
        obtain ⟨x, m⟩ := x
        dsimp only at d0 d1 HD hmb
        clear hkw
        by_cases hjm : (j : Int) < m
        · have HV : Hid ((expI l)[i0]? = some x) := Lib.hid (by
            rw [HE.out, HD.out, List.getElem?_append_left (by simp; omega), List.getElem?_replicate]
            simp; omega)
          go_wp2_with fail
          go_ret2
          exact ⟨by rw [HAT.out, HV.out]; rfl, KW.out.alloc _⟩
        · have hjm2 : m ≤ j := by omega
          obtain ⟨m, rfl⟩ : ∃ m0 : Nat, m = m0 := ⟨m.toNat, by omega⟩
          have hmj : m ≤ j := by omega
          have HV : Hid ((expI l)[i0]? = (expI (l.drop (k + 1)))[j - m]?) := Lib.hid (by
            rw [HE.out, HD.out, List.getElem?_append_right (by simp; omega)]
            simp)
          go_wp2_with fail
          go_roundw
          case rel => exact ⟨k + 1, j - m, by omega, by go_num, by rw [show ((j : Int) - (m : Int)) = ((j - m : Nat) : Int) by omega], by omega, HV.out, KW.out.alloc _⟩
          case measure => simp [intOf]; omega
      · have hlt2 : ¬ (k : Int) < N := by omega
        have HV : Hid ((expI l)[i0]? = none) := Lib.hid (by
          rw [HE.out, List.drop_eq_nil_of_le (by rw [HN.out]; omega)]; rfl)
        clear hkw
        go_wp2_with fail
        go_ret2
        exact ⟨by rw [HAT.out, HV.out]; rfl, KW.out⟩
theorem at_nilI (i : Int) (w : World) : Calls Try.prog 16 #[.pointer none, .int .i64 i] w fun e w' => e = .returned (.tuple #[.int .i64 0, .bool false]) ∧ w' = w := by
  go_enter Try.func16, Try.ntmps16
  go_wp2_with fail
  go_ret2
  exact ⟨rfl, rfl⟩
theorem kinds_nilI (w : World) : Calls Try.prog 18 #[.pointer none] w fun e w' => e = .returned (.int .i64 0) ∧ w' = w := by
  go_enter Try.func18, Try.ntmps18
  go_wp2_with fail
  go_ret
  exact ⟨rfl, rfl⟩
theorem add_nilI (t n : Int) (w : World) : Calls Try.prog 15 #[.pointer none, .int .i64 t, .int .i64 n] w fun e w' => e = .returned (.int .i64 0) ∧ w' = w := by
  go_enter Try.func15, Try.ntmps15
  go_wp2_with fail
  go_ret
  exact ⟨rfl, rfl⟩
theorem count_nilI (t : Int) (w : World) : Calls Try.prog 36 #[.pointer none, .int .i64 t] w fun e w' => e = .returned (.int .i64 0) ∧ w' = w := by
  have H := Lib.hid (add_nilI t 0 w)
  go_enter Try.func36, Try.ntmps36
  go_wp2_with fail
  refine H.out.mono ?_
  rintro e w' ⟨rfl, rfl⟩
  go_wp2_with fail
  go_ret
  exact ⟨rfl, rfl⟩
theorem len_nilI (w : World) : Calls Try.prog 17 #[.pointer none] w fun e w' => e = .returned (.int .i64 0) ∧ w' = w := by
  have H := Lib.hid (kinds_nilI w)
  go_enter Try.func17, Try.ntmps17
  go_wp2_with fail
  refine H.out.mono ?_
  rintro e w' ⟨rfl, rfl⟩
  go_wp2_with fail
  refine wp_loop_rounds 1 ?_
  rw [rounds_succ]
  go_wp2_with fail
  go_ret
  exact ⟨rfl, rfl⟩
theorem each_nilI (w : World) : Calls Try.prog 37 #[.pointer none] w fun e w' => e = .returned (.slice none 0 0) ∧ w' = w := by
  have H := Lib.hid (kinds_nilI w)
  go_enter Try.func37, Try.ntmps37
  go_wp2_with fail
  refine H.out.mono ?_
  rintro e w' ⟨rfl, rfl⟩
  go_wp2_with fail
  refine wp_loop_rounds 1 ?_
  rw [rounds_succ]
  go_wp2_with fail
  go_ret
  exact ⟨rfl, rfl⟩
def fstI (l : List (Int × Int)) : List Int := l.map (·.1)
theorem fstI_append (l m : List (Int × Int)) : fstI (l ++ m) = fstI l ++ fstI m := List.map_append
theorem infoEI : (Try.prog.info? 3).map (fun i => (i.zero, i.size, i.bytes)) = some (some (.int .i64 0), 1, 8) := by kernel_rfl
set_option maxHeartbeats 1000000 in
theorem eachI_any (b g : Nat) (cb : Array Value) (v : Value) (l : List (Int × Int)) (w : World) (h : BagI w b g cb v l) (hn : l.length ≤ 1000000) :
    Calls Try.prog 37 #[.pointer (some ⟨b, 0, none⟩)] w fun e w' => ∃ ao cp, e = .returned (.slice ao l.length cp) ∧ w'.ownsRow 0 3 1 (.slice ao l.length cp) l.length ((fstI l).map (.int .i64)) ∧ (∀ k, (Value.slice ao l.length cp).ownBlock = some k → w.heap.size ≤ k) ∧ Keep NoF w w' := by
  have hk := kindsI_any b g cb v l w h
  obtain ⟨ao, cp, rfl⟩ := row_slice h.own
  have hs := row_slPI rfl h.own
  have H := Lib.hid h
  obtain ⟨N, hN⟩ : ∃ N, l.length = N := ⟨_, rfl⟩
  rw [hN] at hk hn ⊢
  have HK := Lib.hid hk; have HS := Lib.hid hs; have HN := Lib.hid hN
  clear hk h hs hN
  go_enter Try.func37, Try.ntmps37
  go_wp2_with fail
  refine HK.out.mono ?_
  rintro e w0 ⟨rfl, rfl⟩
  go_wp2_with fail
  go_loopw [3, 7] (fun sv iv wr => ∃ (k : Nat) (al : Option Addr) (cl : Nat), k ≤ N ∧ iv = .int .i64 k ∧ sv = .slice al k cl ∧ wr.ownsRow 0 3 1 (.slice al k cl) k ((fstI (l.take k)).map (.int .i64)) ∧ Keep NoF w0 wr ∧ (∀ g, (Value.slice al k cl).ownBlock = some g → w0.heap.size ≤ g)) (fun _ iv _ => N - (intOf iv).toNat)
  case atStart => exact ⟨0, none, 0, Nat.zero_le _, rfl, rfl, World.ownsRow_nil _ _ _ _, Keep.refl _ _, nofun⟩
  case round =>
    obtain ⟨k, al, cl, hk, rfl, rfl, hO, hkw, hnew⟩ := hrel
    have HO := Lib.hid hO; have KW := Lib.hid hkw; have HNW := Lib.hid hnew
    clear hO hnew
    by_cases hlt : k < N
    · have hlt2 : (k : Int) < N := by omega
      have hlt3 : decide (N ≤ k) = false := by simp; omega
      have hkl : k < l.length := by rw [HN.out]; exact hlt
      have c1 := cell_of_heap (H.out.keep hkw (fun f => f) (fun _ _ f => f)).row 1
      simp at c1
      rw [HN.out] at c1
      obtain ⟨gr, or, rfl, d0, d1⟩ := (HS.out.keep hkw (fun _ _ f => f)).2.2 k hkl
      have HTK : Hid (l.take (k + 1) = l.take k ++ [l[k]]) := Lib.hid (List.take_succ_eq_append_getElem hkl)
      generalize l[k] = x at d0 d1 HTK
      clear hkw d1
      go_wp2_with (at_builtin; refine wpList_app 22 22 3 (.int .i64 0) 1 8 Try.underlying22 infoEI rfl (by decide) (by decide) rfl rfl rfl rfl (HO.out.alloc _) (Src.one Try.underlying22 (heap_new wr _) rfl 1) (by omega) ?_)
      intro a9 c9 w9 hown hgr hfr
      have hO9 : w9.ownsRow 0 3 1 (.slice a9 (k + 1) c9) (k + 1) ((fstI (l.take (k + 1))).map (.int .i64)) := by rw [HTK.out, fstI_append, List.map_append]; exact hown
      have hk9 : Keep NoF w0 w9 := (KW.out.alloc _).grown hgr (fun k hk e => by have := HNW.out k e; omega)
      have hn9 : ∀ g, (Value.slice a9 (k + 1) c9).ownBlock = some g → w0.heap.size ≤ g := fun g hg => by
        rcases hfr with f | f
        · exact HNW.out g (by rw [← f]; exact hg)
        · rw [f] at hg; injection hg with hg; have := KW.out.size; omega
      have HO9 := Lib.hid hO9; have HK9 := Lib.hid hk9; have HN9 := Lib.hid hn9
      clear hown hgr hfr hO9 hk9 hn9
      go_wp2_with fail
      go_roundw
      case rel => exact ⟨k + 1, a9, c9, by omega, by go_num, rfl, HO9.out, HK9.out, HN9.out⟩
      case measure => simp [intOf]; omega
    · have hlt2 : ¬ (k : Int) < N := by omega
      obtain rfl : k = N := by omega
      have hfin := HO.out
      rw [List.take_of_length_le (by rw [HN.out]; exact Nat.le_refl _)] at hfin
      have HFIN := Lib.hid hfin
      clear hfin hkw
      go_wp2_with fail
      go_ret
      exact ⟨al, cl, rfl, HFIN.out, HNW.out, KW.out⟩
end Go.Proofs.Ytidpfkehmokdfaa
