/- The bag's search: its closure, slices.BinarySearchFunc, find. -/
import Derived.Test.YtdbgplnjppaimaaGreatBagK
import Derived.Test.YtdbgplnjppaimaaGreatMapN
import Derived.Test.YtdbgplnjppaimaaGreatChecked
import Derived.Deep.CutRange
import Derived.Deep.RegionHeld
import Derived.Shelf.SlSortCmp.Kit1
open Go Go.RowKit Go.Maps Go.Sort Go.Shelf
namespace Go.Proofs.YtdbgplnjppaimaaGreat
set_option maxHeartbeats 1000000 in
theorem find1S (g : Nat) (cb : Array Value) (eg : ∀ args w, (callFunc g args).run Tryz.prog w = .ok (.enter g args) w) (r : Int) (x : ByteArray) (n : Int) (t : ByteArray) (bx b : Nat) (W : World) (h1 : W.cell? ⟨bx, 0, none⟩ = some (.pointer (some ⟨b, 0, none⟩))) (h2 : W.cell? ⟨b, 0, none⟩ = some (.func (.func g) #[] cb))
    (hlaw : ∀ W', Keep NoF W W' → Calls Tryz.prog g (#[.string x, .string t] ++ cb) W' fun e w' => e = .returned (.int .i64 r) ∧ Keep NoF W' w') :
    Calls Tryz.prog 102 #[.agg #[.string x, .int .i64 n], .string t, .pointer (some ⟨bx, 0, none⟩)] W fun e w' => e = .returned (.int .i64 r) ∧ Keep NoF W w' := by
  have HLAW := Lib.hid hlaw
  obtain ⟨bs, hbs⟩ : ∃ bs, W.heap.size = bs := ⟨_, rfl⟩
  have H1 : Hid ((W.alloc (.cells #[.string x, .int .i64 n] 117 (0, 0))).drew.cell? ⟨bx, 0, none⟩ = some (.pointer (some ⟨b, 0, none⟩))) := Lib.hid (((Keep.refl NoF W).alloc _).drew.cell' h1 (fun f => f))
  have H2 : Hid ((W.alloc (.cells #[.string x, .int .i64 n] 117 (0, 0))).drew.cell? ⟨b, 0, none⟩ = some (.func (.func g) #[] cb)) := Lib.hid (((Keep.refl NoF W).alloc _).drew.cell' h2 (fun f => f))
  have H3 : Hid ((W.alloc (.cells #[.string x, .int .i64 n] 117 (0, 0))).drew.cell? ⟨bs, 0, none⟩ = some (.string x)) := Lib.hid (by
    have := cell_of_heap (heap_new W (.cells #[.string x, .int .i64 n] 117 (0, 0))) 0
    rw [hbs] at this
    exact this)
  have KD : Hid (Keep NoF W (W.alloc (.cells #[.string x, .int .i64 n] 117 (0, 0))).drew) := Lib.hid ((Keep.refl NoF W).alloc _).drew
  clear hlaw h1 h2
  go_enter Tryz.func102, Tryz.ntmps102
  go_wp2_with fail
  refine wp_region_noPanic ?_
  refine wp_region_held_drew (S := fun W' : World => W'.cell? ⟨bx, 0, none⟩ = some (.pointer (some ⟨b, 0, none⟩)) ∧ W'.cell? ⟨b, 0, none⟩ = some (.func (.func g) #[] cb) ∧ W'.cell? ⟨bs, 0, none⟩ = some (.string x)) (by kernel_rfl) (⟨H1.out, H2.out, H3.out⟩) (fun hHeld => ?_)
  refine wpAnyH_take (i := 0) (oi := ?oF0) (v := ?vF0) ?hiF0 (by kernel_rfl) (by kernel_rfl) (by kernel_rfl) (fun _ _ _ h => h) (Or.inl ⟨?wF0, ?yF0⟩) (by assumption) ?rF0
  case hiF0 => (simp only [List.getElem?_toArray, List.getElem?_cons_zero]; try rfl)
  case wF0 => rfl
  case yF0 => (intro w hSw; obtain ⟨hSa, hSb, hSc⟩ := hSw; go_simp; (try with_reducible rfl))
  (try simp only [Act.put, List.setIfInBounds_toArray, List.set_cons_zero, List.set_cons_succ])
  refine wpAnyH_take (i := 1) (oi := ?oF1) (v := ?vF1) ?hiF1 (by kernel_rfl) (by kernel_rfl) (by kernel_rfl) (fun _ _ _ h => h) (Or.inl ⟨?wF1, ?yF1⟩) (by assumption) ?rF1
  case hiF1 => (simp only [List.getElem?_toArray, List.getElem?_cons_succ, List.getElem?_cons_zero]; try rfl)
  case wF1 => rfl
  case yF1 => (intro w hSw; obtain ⟨hSa, hSb, hSc⟩ := hSw; go_simp; (try with_reducible rfl))
  (try simp only [Act.put, List.setIfInBounds_toArray, List.set_cons_zero, List.set_cons_succ])
  refine wpAnyH_take (i := 2) (oi := ?oF2) (v := ?vF2) ?hiF2 (by kernel_rfl) (by kernel_rfl) (by kernel_rfl) (fun _ _ _ h => h) (Or.inl ⟨?wF2, ?yF2⟩) (by assumption) ?rF2
  case hiF2 => (simp only [List.getElem?_toArray, List.getElem?_cons_succ, List.getElem?_cons_zero]; try rfl)
  case wF2 => rfl
  case yF2 => (intro w hSw; obtain ⟨hSa, hSb, hSc⟩ := hSw; go_simp; (try with_reducible rfl))
  (try simp only [Act.put, List.setIfInBounds_toArray, List.set_cons_zero, List.set_cons_succ])
  refine wpAnyH_take (i := 3) (oi := ?oF3) (v := ?vF3) ?hiF3 (by kernel_rfl) (by kernel_rfl) (by kernel_rfl) (fun _ _ _ h => h) (Or.inl ⟨?wF3, ?yF3⟩) (by assumption) ?rF3
  case hiF3 => (simp only [List.getElem?_toArray, List.getElem?_cons_succ, List.getElem?_cons_zero]; try rfl)
  case wF3 => rfl
  case yF3 => (intro w hSw; obtain ⟨hSa, hSb, hSc⟩ := hSw; go_simp; (try with_reducible rfl))
  (try simp only [Act.put, List.setIfInBounds_toArray, List.set_cons_zero, List.set_cons_succ])
  refine wpAnyH_take (i := 4) (oi := ?oF4) (v := ?vF4) ?hiF4 (by kernel_rfl) (by kernel_rfl) (by kernel_rfl) (fun _ _ _ h => h) (Or.inl ⟨?wF4, ?yF4⟩) (by assumption) ?rF4
  case hiF4 => (simp only [List.getElem?_toArray, List.getElem?_cons_succ, List.getElem?_cons_zero]; try rfl)
  case wF4 => rfl
  case yF4 => (intro w hSw; obtain ⟨hSa, hSb, hSc⟩ := hSw; go_simp; (try with_reducible rfl))
  (try simp only [Act.put, List.setIfInBounds_toArray, List.set_cons_zero, List.set_cons_succ])
  refine wpAnyH_take (i := 5) (oi := ?oF5) (v := ?vF5) ?hiF5 (by kernel_rfl) (by kernel_rfl) (by kernel_rfl) (fun _ _ _ h => h) (Or.inl ⟨?wF5, ?yF5⟩) (by assumption) ?rF5
  case hiF5 => (simp only [List.getElem?_toArray, List.getElem?_cons_succ, List.getElem?_cons_zero]; try rfl)
  case wF5 => rfl
  case yF5 => (intro w hSw; obtain ⟨hSa, hSb, hSc⟩ := hSw; go_simp; (try with_reducible rfl))
  (try simp only [Act.put, List.setIfInBounds_toArray, List.set_cons_zero, List.set_cons_succ])
  refine wpAnyH_take (i := 6) (oi := ?oF6) (v := ?vF6) ?hiF6 (by kernel_rfl) (by kernel_rfl) (by kernel_rfl) (fun _ _ _ h => h) (Or.inl ⟨?wF6, ?yF6⟩) (by assumption) ?rF6
  case hiF6 => (simp only [List.getElem?_toArray, List.getElem?_cons_succ, List.getElem?_cons_zero]; try rfl)
  case wF6 => rfl
  case yF6 => (intro w hSw; obtain ⟨hSa, hSb, hSc⟩ := hSw; go_simp; (try with_reducible rfl))
  (try simp only [Act.put, List.setIfInBounds_toArray, List.set_cons_zero, List.set_cons_succ])
  refine wpAnyH_ready (rs := [7]) (by kernel_rfl) (by simp) ?_
  refine AllReadyH.cons (o := ?oF7) ?hiF7 (fun K hK => ?_) AllReadyH.nil
  case hiF7 => (simp only [List.getElem?_toArray, List.getElem?_cons_succ, List.getElem?_cons_zero]; try rfl)
  go_simp
  (go_at_fn g; refine (HLAW.out _ KD.out).mono ?_; rintro e w8 ⟨rfl, hk8⟩; have K8 := Lib.hid (KD.out.trans' hk8); have K8b := Lib.hid hk8; clear hk8)
  go_wp2_with fail
  refine hK.out _ _ (⟨K8b.out.cell' H1.out (fun f => f), K8b.out.cell' H2.out (fun f => f), K8b.out.cell' H3.out (fun f => f)⟩) (fun hHeld => ?_)
  clear hK K
  (try simp only [Act.put, List.setIfInBounds_toArray, List.set_cons_zero, List.set_cons_succ])
  refine wpAnyH_take (i := 8) (oi := ?oF8) (v := ?vF8) ?hiF8 (by kernel_rfl) (by kernel_rfl) (by kernel_rfl) (fun _ _ _ h => h) (Or.inl ⟨?wF8, ?yF8⟩) (by assumption) ?rF8
  case hiF8 => (simp only [List.getElem?_toArray, List.getElem?_cons_succ, List.getElem?_cons_zero]; try rfl)
  case wF8 => rfl
  case yF8 => (intro w hSw; obtain ⟨hSa, hSb, hSc⟩ := hSw; go_simp; (try with_reducible rfl))
  (try simp only [Act.put, List.setIfInBounds_toArray, List.set_cons_zero, List.set_cons_succ])
  refine wpAnyH_done (by kernel_rfl) ?_ _
  refine NoPanic.normal ?_
  go_wp2_with fail
  go_ret
  exact ⟨rfl, K8.out⟩
/-- A slice of pairs that can be read. -/
def SlPS (w : World) (ao : Option Addr) (cp : Nat) (l : List (ByteArray × Int)) : Prop :=
  l.length ≤ cp ∧ cp ≤ maxLen ∧ ∀ i (h : i < l.length), ∃ g off, ao = some ⟨g, off, none⟩ ∧ w.cell? ⟨g, off + i * 2, none⟩ = some (.string l[i].1) ∧ w.cell? ⟨g, off + i * 2 + 1, none⟩ = some (.int .i64 l[i].2)
theorem SlPS.keep {F : Nat → Prop} {w w' : World} {ao : Option Addr} {cp : Nat} {l : List (ByteArray × Int)} (h : SlPS w ao cp l) (hk : Keep F w w') (hn : ∀ a, ao = some a → ¬ F a.block) : SlPS w' ao cp l := by
  refine ⟨h.1, h.2.1, fun i hi => ?_⟩
  obtain ⟨g, off, rfl, hc, hd⟩ := h.2.2 i hi
  exact ⟨g, off, rfl, hk.cell' hc (hn ⟨g, off, none⟩ rfl), hk.cell' hd (hn ⟨g, off, none⟩ rfl)⟩
def flatS (l : List (ByteArray × Int)) : List Value := l.flatMap fun p => [.string p.1, .int .i64 p.2]
theorem flatS_length (l : List (ByteArray × Int)) : (flatS l).length = l.length * 2 := by
  induction l with
  | nil => rfl
  | cons a l ih => simp [flatS] at ih ⊢; omega
theorem flatS_append (l m : List (ByteArray × Int)) : flatS (l ++ m) = flatS l ++ flatS m := by simp [flatS]
theorem flatS_get (l : List (ByteArray × Int)) (i : Nat) (hi : i < l.length) : (flatS l)[i * 2]? = some (.string l[i].1) ∧ (flatS l)[i * 2 + 1]? = some (.int .i64 l[i].2) := by
  have e : l = l.take i ++ l[i] :: l.drop (i + 1) := by rw [← List.drop_eq_getElem_cons hi, List.take_append_drop]
  have hl : (flatS (l.take i)).length = i * 2 := by rw [flatS_length, List.length_take, Nat.min_eq_left (Nat.le_of_lt hi)]
  have e2 : flatS l = flatS (l.take i) ++ (.string l[i].1 :: .int .i64 l[i].2 :: flatS (l.drop (i + 1))) := by
    conv => lhs; rw [e]
    rw [flatS_append]; rfl
  rw [e2]
  constructor
  · rw [List.getElem?_append_right (by omega), hl, Nat.sub_self]; rfl
  · rw [List.getElem?_append_right (by omega), hl, show i * 2 + 1 - i * 2 = 1 by omega]; rfl
theorem row_slPS {b : Nat} {w : World} {ao : Option Addr} {cp n : Nat} {e : TypeId} {l : List (ByteArray × Int)} (hl : l.length = n) (h : w.ownsRow b e 2 (.slice ao n cp) n (flatS l)) : SlPS w ao cp l := by
  subst hl
  rcases h.2 with ⟨e, he⟩ | ⟨g, cap, cur, e, _, hg, hn, hc, hcs, htk⟩
  · injection e with e1 e2 e3
    have : l = [] := List.eq_nil_of_length_eq_zero (by omega)
    subst this
    exact ⟨by simp, by unfold maxLen; omega, by simp⟩
  · injection e with e1 e2 e3
    subst e1 e3
    refine ⟨hn, hc, fun i hi => ⟨g, 0, rfl, ?_, ?_⟩⟩
    · have := h.cells (g := g) rfl (i * 2) _ (flatS_get l i hi).1
      rw [addr_at] at this; exact this
    · have := h.cells (g := g) rfl (i * 2 + 1) _ (flatS_get l i hi).2
      rw [addr_at] at this
      rw [Nat.add_assoc]; exact this
def BsPS (l : List (ByteArray × Int)) (cf : ByteArray → Int) (i : Nat) : Prop := i ≤ l.length ∧ (∀ k (hk : k < l.length), k < i → cf l[k].1 < 0) ∧ (∀ k (hk : k < l.length), i ≤ k → 0 ≤ cf l[k].1)
def foundS (l : List (ByteArray × Int)) (cf : ByteArray → Int) (i : Nat) : Bool := match l[i]? with | some p => cf p.1 == 0 | none => false
def BsPostS (w : World) (l : List (ByteArray × Int)) (cf : ByteArray → Int) (e : Ending) (w' : World) : Prop :=
  ∃ i : Nat, e = .returned (.tuple #[.int .i64 i, .bool (foundS l cf i)]) ∧ BsPS l cf i ∧ Keep NoF w w'
set_option maxHeartbeats 4000000 in
set_option maxRecDepth 4000 in
theorem bsS_any (g : Nat) (cb : Array Value) (eg : ∀ args w, (callFunc g args).run Tryz.prog w = .ok (.enter g args) w) (bx b : Nat) (ao : Option Addr) (n cp : Nat) (l : List (ByteArray × Int)) (hl : l.length = n) (t : ByteArray) (cf : ByteArray → Int) (w : World) (hs : SlPS w ao cp l) (hn : n ≤ 1000000)
    (h1 : w.cell? ⟨bx, 0, none⟩ = some (.pointer (some ⟨b, 0, none⟩))) (h2 : w.cell? ⟨b, 0, none⟩ = some (.func (.func g) #[] cb))
    (hlaw : ∀ W, Keep NoF w W → ∀ p ∈ l, Calls Tryz.prog g (#[.string p.1, .string t] ++ cb) W fun e w' => e = .returned (.int .i64 (cf p.1)) ∧ Keep NoF W w')
    (hmono : ∀ i j (hi : i < l.length) (hj : j < l.length), i ≤ j → cf l[j].1 < 0 → cf l[i].1 < 0) :
    Calls Tryz.prog 101 #[.slice ao n cp, .string t, .func (.func 102) #[] #[.pointer (some ⟨bx, 0, none⟩)]] w (BsPostS w l cf) := by
  have HL := Lib.hid hl; have HS := Lib.hid hs; have HM := Lib.hid hmono
  have HF : Hid (∀ W, Keep NoF w W → ∀ p ∈ l, Calls Tryz.prog 102 #[.agg #[.string p.1, .int .i64 p.2], .string t, .pointer (some ⟨bx, 0, none⟩)] W fun e w' => e = .returned (.int .i64 (cf p.1)) ∧ Keep NoF W w') :=
    Lib.hid fun W hW p hp => find1S g cb eg (cf p.1) p.1 p.2 t bx b W (hW.cell' h1 (fun f => f)) (hW.cell' h2 (fun f => f)) (fun W' hW' => hlaw W' (hW.trans' hW') p hp)
  clear hl hs hmono hlaw h1 h2 eg
  go_enter Tryz.func101, Tryz.ntmps101
  go_wp2_with fail
  go_loopw [9, 10] (fun lv hv wr => ∃ lo hi : Nat, lv = .int .i64 lo ∧ hv = .int .i64 hi ∧ lo ≤ hi ∧ hi ≤ n ∧ (∀ k (hk : k < l.length), k < lo → cf l[k].1 < 0) ∧ (∀ k (hk : k < l.length), hi ≤ k → 0 ≤ cf l[k].1) ∧ Keep NoF w wr) (fun lv hv _ => (intOf hv - intOf lv).toNat)
  case atStart => exact ⟨0, n, rfl, rfl, Nat.zero_le _, Nat.le_refl _, fun k hk h => by omega, fun k hk h => by rw [HL.out] at hk; omega, Keep.refl _ _⟩
  case round =>
    obtain ⟨lo, hi, rfl, rfl, hlh, hhn, i1, i2, hk⟩ := hrel
    have I1 := Lib.hid i1; have I2 := Lib.hid i2; have KW := Lib.hid hk
    clear i1 i2
    by_cases hlt : lo < hi
    · have hlt2 : (lo : Int) < hi := by omega
      have hml : (lo + hi) / 2 < l.length := by rw [HL.out]; omega
      obtain ⟨gr, or, rfl, d0, d1⟩ := (HS.out.keep hk (fun _ _ f => f)).2.2 ((lo + hi) / 2) hml
      have hmn : (lo + hi) / 2 < n := by omega
      have HP := Lib.hid (HF.out wr hk l[(lo + hi) / 2] (List.getElem_mem hml))
      generalize hx : l[(lo + hi) / 2] = x at d0 d1 HP
      have HX := Lib.hid hx
      clear hk hx
      by_cases hc : cf x.1 < 0
      · go_wp2_with fail
        refine HP.out.mono ?_
        rintro e w2 ⟨rfl, hk2⟩
        have K2 := Lib.hid (KW.out.trans' hk2)
        clear hk2 d0 d1
        go_wp2_with fail
        go_roundw
        case rel => exact ⟨(lo + hi) / 2 + 1, hi, by rw [show ((lo : Int) + (hi : Int)) / 2 + 1 = (((lo + hi) / 2 + 1 : Nat) : Int) by omega], rfl, by omega, hhn, fun k hk h => HM.out k ((lo + hi) / 2) hk hml (by omega) (by rw [HX.out]; exact hc), I2.out, K2.out⟩
        case measure => simp [intOf]; omega
      · have hc0 : 0 ≤ cf x.1 := by omega
        go_wp2_with fail
        refine HP.out.mono ?_
        rintro e w2 ⟨rfl, hk2⟩
        have K2 := Lib.hid (KW.out.trans' hk2)
        clear hk2 d0 d1
        go_wp2_with fail
        go_roundw
        case rel =>
          refine ⟨lo, (lo + hi) / 2, rfl, by rw [show ((lo : Int) + (hi : Int)) / 2 = (((lo + hi) / 2 : Nat) : Int) by omega], by omega, by omega, I1.out, fun k hk h => ?_, K2.out⟩
          by_cases hneg : cf l[k].1 < 0
          · have := HM.out ((lo + hi) / 2) k hml hk h hneg
            rw [HX.out] at this; omega
          · omega
        case measure => simp [intOf]; omega
    · have hlt2 : ¬ (lo : Int) < hi := by omega
      obtain rfl : lo = hi := by omega
      by_cases hln : lo < n
      · have hln2 : (lo : Int) < n := by omega
        have hml : lo < l.length := by rw [HL.out]; exact hln
        obtain ⟨gr, or, rfl, d0, d1⟩ := (HS.out.keep hk (fun _ _ f => f)).2.2 lo hml
        have HP := Lib.hid (HF.out wr hk l[lo] (List.getElem_mem hml))
        have HFD : Hid (foundS l cf lo = (cf l[lo].1 == 0)) := Lib.hid (by unfold foundS; rw [List.getElem?_eq_getElem hml])
        generalize l[lo] = x at d0 d1 HP HFD
        clear hk
        go_wp2_with fail
        refine HP.out.mono ?_
        rintro e w2 ⟨rfl, hk2⟩
        have K2 := Lib.hid (KW.out.trans' hk2)
        clear hk2 d0 d1
        go_wp2_with fail
        go_ret2
        exact ⟨lo, by rw [HFD.out]; rfl, ⟨by rw [HL.out]; omega, I1.out, I2.out⟩, K2.out⟩
      · have hln2 : ¬ (lo : Int) < n := by omega
        have HFD : Hid (foundS l cf lo = false) := Lib.hid (by unfold foundS; rw [List.getElem?_eq_none (by rw [HL.out]; omega)])
        clear hk
        go_wp2_with fail
        go_ret2
        exact ⟨lo, by rw [HFD.out]; rfl, ⟨by rw [HL.out]; omega, I1.out, I2.out⟩, KW.out⟩
/-- A bag's state: how it compares, what lies in it. -/
structure BagS (w : World) (b g : Nat) (cb : Array Value) (v : Value) (l : List (ByteArray × Int)) : Prop where
  row : w.heap[b]? = some (.cells #[.func (.func g) #[] cb, v] 109 (0, 0))
  own : w.ownsRow 0 117 2 v l.length (flatS l)
  ne : v.ownBlock ≠ some b
theorem BagS.keep {F : Nat → Prop} {w w' : World} {b g : Nat} {cb : Array Value} {v : Value} {l : List (ByteArray × Int)} (h : BagS w b g cb v l) (hk : Keep F w w') (h1 : ¬ F b) (h2 : ∀ k, v.ownBlock = some k → ¬ F k) : BagS w' b g cb v l :=
  ⟨by rw [hk.block b (lt_of_heap h.row) h1]; exact h.row, row_keep h.own hk h2, h.ne⟩
set_option maxHeartbeats 1000000 in
theorem findS_any (b g : Nat) (cb : Array Value) (eg : ∀ args w, (callFunc g args).run Tryz.prog w = .ok (.enter g args) w) (v : Value) (l : List (ByteArray × Int)) (t : ByteArray) (cf : ByteArray → Int) (w : World) (h : BagS w b g cb v l) (hn : l.length ≤ 1000000)
    (hlaw : ∀ W, Keep NoF w W → ∀ p ∈ l, Calls Tryz.prog g (#[.string p.1, .string t] ++ cb) W fun e w' => e = .returned (.int .i64 (cf p.1)) ∧ Keep NoF W w')
    (hmono : ∀ i j (hi : i < l.length) (hj : j < l.length), i ≤ j → cf l[j].1 < 0 → cf l[i].1 < 0) :
    Calls Tryz.prog 76 #[.pointer (some ⟨b, 0, none⟩), .string t] w (BsPostS w l cf) := by
  obtain ⟨ao, cp, rfl⟩ := row_slice h.own
  have c1 := cell_of_heap h.row 1
  have c0 := cell_of_heap h.row 0
  simp at c0 c1
  obtain ⟨n, hn2⟩ : ∃ n, l.length = n := ⟨_, rfl⟩
  have hown := h.own
  rw [hn2] at hown c1 hn
  obtain ⟨bx, hbx⟩ : ∃ bx, w.heap.size = bx := ⟨_, rfl⟩
  have ka := (Keep.refl NoF w).alloc (.cells #[.pointer (some ⟨b, 0, none⟩)] 85 (0, 0))
  have hx : (w.alloc (.cells #[.pointer (some ⟨b, 0, none⟩)] 85 (0, 0))).cell? ⟨bx, 0, none⟩ = some (.pointer (some ⟨b, 0, none⟩)) := by
    have := cell_of_heap (heap_new w (.cells #[.pointer (some ⟨b, 0, none⟩)] 85 (0, 0))) 0
    rw [hbx] at this
    exact this
  have HBS := Lib.hid (bsS_any g cb eg bx b ao n cp l hn2 t cf _ ((row_slPS hn2 hown).keep ka (fun _ _ f => f)) hn hx (ka.cell' c0 (fun f => f)) (fun W hW => hlaw W (ka.trans' hW)) hmono)
  have KA := Lib.hid ka
  have c2 := ka.cell' c1 (fun f => f)
  clear h hlaw hmono hown eg hn2 ka c0 c1
  go_enter Tryz.func76, Tryz.ntmps76
  go_wp2_with fail
  refine HBS.out.mono ?_
  rintro e w2 ⟨i, rfl, hb, hk⟩
  have HB := Lib.hid hb; have K2 := Lib.hid (KA.out.trans' hk)
  clear hb hk
  go_wp2_with fail
  go_ret2
  exact ⟨i, rfl, HB.out, K2.out⟩
end Go.Proofs.YtdbgplnjppaimaaGreat
