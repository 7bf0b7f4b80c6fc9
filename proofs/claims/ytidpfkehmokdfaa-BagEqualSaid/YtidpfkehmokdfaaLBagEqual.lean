/- BagEqual: the law returns true and changes nothing that was there. No conditions. -/
import Derived.Test.YtidpfkehmokdfaaBy6
import Derived.Deep.CutRange
import Derived.Deep.RegionHeld
import Derived.Test.YtidpfkehmokdfaaRows
import Derived.WalkKit
import Derived.ProofKit
import Derived.OpenShut
import Derived.ShutString
import Derived.ChangeOld
import Derived.Below
namespace Go.Proofs.Ytidpfkehmokdfaa.bagEqual
open Go Go.ChangeShapes Go.WideShapes Go.ChangeAt Go.RowKit
open Go.ChangeMaps (open_string shut_string)

theorem own : ownKnob Try.prog.godebug = none := by kernel_rfl
theorem laidOut : laidOutB Try.prog = true := by kernel_rfl

open Go.Proofs Go.RowKit Go.Maps Go.Sort Go.Shelf
def keyE (x : Int) : Int := (x.tmod 5 + 5).tmod 5
theorem keyE_b (x : Int) : 0 ≤ keyE x ∧ keyE x < 5 := by
  have h1 := tmod_bounds x 5 (by omega)
  unfold keyE
  rw [Int.tmod_eq_emod_of_nonneg (a := x.tmod 5 + 5) (by omega)]
  exact ⟨Int.emod_nonneg _ (by omega), Int.emod_lt_of_pos _ (by omega)⟩
theorem keyE_small (k : Nat) (h : k < 5) : keyE k = k := by
  have : k = 0 ∨ k = 1 ∨ k = 2 ∨ k = 3 ∨ k = 4 := by omega
  rcases this with rfl | rfl | rfl | rfl | rfl <;> rfl
def cmpE (x y : Int) : Int := cmpI (keyE x) (keyE y)
abbrev okE (_ : Int) : Prop := True
theorem keyE_C : KeyC cmpE keyE okE := by
  constructor
  · intro x y _ _; unfold cmpE cmpI; repeat' split
    all_goals omega
  · intro x y _ _; unfold cmpE cmpI; repeat' split
    all_goals omega
set_option maxRecDepth 4000 in
theorem eq1_any (x y : Int) (W : World) :
    Calls Try.prog 38 #[.int .i64 x, .int .i64 y] W fun e w' => e = .returned (.int .i64 (cmpE x y)) ∧ w' = W := by
  have C1 := cmpI_any (keyE x) (keyE y) W
  unfold cmpE
  have h1 := tmod_bounds x 5 (by omega)
  have h2 := tmod_bounds y 5 (by omega)
  unfold keyE at C1 ⊢
  obtain ⟨a, ha⟩ : ∃ a, x.tmod 5 = a := ⟨_, rfl⟩
  obtain ⟨b, hb⟩ : ∃ b, y.tmod 5 = b := ⟨_, rfl⟩
  rw [ha] at h1 C1 ⊢
  rw [hb] at h2 C1 ⊢
  obtain ⟨a2, ha2⟩ : ∃ a2, (a + 5).tmod 5 = a2 := ⟨_, rfl⟩
  obtain ⟨b2, hb2⟩ : ∃ b2, (b + 5).tmod 5 = b2 := ⟨_, rfl⟩
  rw [ha2, hb2] at C1 ⊢
  have C := Lib.hid C1
  clear C1
  go_enter Try.func38, Try.ntmps38
  go_wp2_with fail
  refine C.out.mono ?_
  rintro e w' ⟨rfl, rfl⟩
  go_wp2_with fail
  go_ret
  exact ⟨rfl, rfl⟩
theorem enterE : ∀ args w, (callFunc 38 args).run Try.prog w = .ok (.enter 38 args) w := enters_of Try.func38 (by kernel_rfl) rfl
def wfE (x : Int) : Prop := -9223372036854775808 ≤ x ∧ x ≤ 9223372036854775807
theorem keyE_C2 : KeyC cmpE keyE wfE := ⟨fun x y _ _ => keyE_C.lt x y trivial trivial, fun x y _ _ => keyE_C.eq x y trivial trivial⟩
theorem addE_any (b : Nat) (v : Value) (l : List (Int × Int)) (t n : Int) (w : World) (h : BagI w b 38 #[] v l) {s : Int} {f : Int → Int} (hr : Rep keyE wfE l s f) (hs : s ≤ 1000) (ht : wfE t) (hn : -1000 ≤ n ∧ n ≤ 1000) :
    Calls Try.prog 15 #[.pointer (some ⟨b, 0, none⟩), .int .i64 t, .int .i64 n] w (AddWI cmpE w b 38 #[] v l t n) := by
  obtain ⟨b1, b2⟩ := hr.bounds (by omega)
  refine (addI_any b 38 #[] enterE v l t n (fun y => cmpE y t) w h b1 (fun W _ p hp => ?_) (sort_mono keyE_C2 hr.sort hr.ok ht) b2 (by omega)).mono ?_
  · refine (eq1_any p.1 t W).mono ?_
    rintro e w' ⟨rfl, rfl⟩
    exact ⟨rfl, Keep.refl _ _⟩
  · rintro e w' ⟨i, v', hb, rfl, h1, h2, h3⟩
    have := posI_eq l _ i hb
    refine ⟨v', ?_, ?_, h2, h3⟩
    · unfold nowWI; rw [this]
    · unfold addWI; rw [this]; exact h1
theorem countE_any (b : Nat) (v : Value) (l : List (Int × Int)) (t : Int) (w : World) (h : BagI w b 38 #[] v l) {s : Int} {f : Int → Int} (hr : Rep keyE wfE l s f) (hs : s ≤ 1000) (ht : wfE t) :
    Calls Try.prog 36 #[.pointer (some ⟨b, 0, none⟩), .int .i64 t] w (AddWI cmpE w b 38 #[] v l t 0) := by
  have H := Lib.hid (addE_any b v l t 0 w h hr hs ht (by omega))
  clear h hr
  go_enter Try.func36, Try.ntmps36
  go_wp2_with fail
  refine H.out.mono ?_
  rintro e w' ⟨v', rfl, h1, h2, h3⟩
  have H1 := Lib.hid h1; have H2 := Lib.hid h2; have H3 := Lib.hid h3
  clear h1 h2 h3
  go_wp2_with fail
  go_ret
  exact ⟨v', rfl, H1.out, H2.out, H3.out⟩
def CM (w : World) (g : Nat) (f : Int → Int) : Prop := w.heap[g]? = some (.cells (((List.range 5).map fun k : Nat => f k).map (Value.int .i64)).toArray 56 (0, 0))
theorem CM.cell {w : World} {g : Nat} {f : Int → Int} (h : CM w g f) (j : Nat) (hj : j < 5) : w.cell? ⟨g, j, none⟩ = some (.int .i64 (f j)) := by
  rw [cell_of_heap h j]; simp [hj]
theorem CM.set {w : World} {g : Nat} {f : Int → Int} (h : CM w g f) (j : Nat) (x : Int) (f' : Int → Int) (h1 : f' j = x) (h2 : ∀ k : Nat, k < 5 → k ≠ j → f' k = f k) : CM (w.setCell ⟨g, j, none⟩ (.int .i64 x)) g f' := by
  unfold CM at h ⊢
  have e : (((List.range 5).map fun k : Nat => f k).map (Value.int .i64)).set j (.int .i64 x) = ((List.range 5).map fun k : Nat => f' k).map (Value.int .i64) := by
    apply List.ext_getElem
    · simp
    · intro i hi1 hi2
      have hi5 : i < 5 := by simpa using hi2
      rw [List.getElem_set]
      by_cases e : j = i
      · subst e; simp [h1]
      · simp only [e, if_false, List.getElem_map, List.getElem_range]
        rw [h2 i hi5 (fun e2 => e e2.symm)]
  rw [← e]
  simp [World.setCell, Array.getElem?_modify, h]
theorem CM.keep {F : Nat → Prop} {w w' : World} {g : Nat} {f : Int → Int} (h : CM w g f) (hk : Keep F w w') (hg : ¬ F g) : CM w' g f := by
  unfold CM at h ⊢; rw [hk.block g (lt_of_heap h) hg]; exact h
theorem rep_congr {key : Int → Int} {ok : Int → Prop} {l : List (Int × Int)} {s s' : Int} {f f' : Int → Int} (h : Rep key ok l s f) (hs : s' = s) (hf : ∀ k, f' k = f k) : Rep key ok l s' f' := ⟨h.sort, h.ok, h.pos, by rw [hs]; exact h.sum, fun k => by rw [hf]; exact h.cnt k⟩
theorem cnt_pos (key : Int → Int) : ∀ (l : List (Int × Int)), (∀ p ∈ l, 1 ≤ p.2) → ∀ k, 0 ≤ cntK key l k ∧ (0 < cntK key l k ↔ ∃ p ∈ l, key p.1 = k)
  | [], _, k => by simp [cntK]
  | p :: l, h, k => by
    obtain ⟨h1, h2⟩ := cnt_pos key l (fun q hq => h q (List.mem_cons_of_mem _ hq)) k
    have h3 := h p (by simp)
    simp only [cntK]
    by_cases e : key p.1 = k
    · rw [if_pos e]
      exact ⟨by omega, fun _ => ⟨p, by simp, e⟩, fun _ => by omega⟩
    · rw [if_neg e, Int.zero_add]
      refine ⟨h1, ?_⟩
      rw [h2]
      constructor
      · rintro ⟨q, hq, e2⟩; exact ⟨q, List.mem_cons_of_mem _ hq, e2⟩
      · rintro ⟨q, hq, e2⟩
        rcases List.mem_cons.1 hq with rfl | hq
        · exact absurd e2 e
        · exact ⟨q, hq, e2⟩
theorem cnt_le_sum (key : Int → Int) : ∀ (l : List (Int × Int)), (∀ p ∈ l, 1 ≤ p.2) → ∀ k, cntK key l k ≤ sumI l
  | [], _, k => by simp [cntK, sumI]
  | p :: l, h, k => by
    have h1 := cnt_le_sum key l (fun q hq => h q (List.mem_cons_of_mem _ hq)) k
    have h3 := h p (by simp)
    have e : sumI (p :: l) = p.2 + sumI l := by simp [sumI]
    simp only [cntK]
    rw [e]
    split <;> omega
theorem kinds_len {l : List (Int × Int)} {s : Int} {f : Int → Int} (h : Rep keyE wfE l s f) : l.length = ((List.range 5).filter fun k : Nat => decide (0 < f k)).length := by
  have hp : (l.map fun p => (keyE p.1).toNat).Perm ((List.range 5).filter fun k : Nat => decide (0 < f k)) := by
    refine (List.perm_ext_iff_of_nodup ?_ (List.nodup_range.filter _)).2 fun k => ?_
    · rw [List.nodup_iff_pairwise_ne, List.pairwise_map]
      refine h.sort.imp fun {a b} hab => ?_
      have := keyE_b a.1; have := keyE_b b.1
      omega
    · rw [List.mem_map, List.mem_filter, List.mem_range, decide_eq_true_eq, ← h.cnt, (cnt_pos keyE l h.pos k).2]
      constructor
      · rintro ⟨p, hp, rfl⟩
        have := keyE_b p.1
        exact ⟨by omega, p, hp, by omega⟩
      · rintro ⟨_, p, hp, e⟩
        exact ⟨p, hp, by omega⟩
  rw [← hp.length_eq, List.length_map]
def EqS (w : World) (N0 b gc : Nat) (i : Nat) (wr : World) (v : Value) (l : List (Int × Int)) (f : Int → Int) : Prop :=
  BagI wr b 38 #[] v l ∧ (∀ j, v.ownBlock = some j → N0 ≤ j) ∧ CM wr gc f ∧ Rep keyE wfE l i f ∧ Keep NoF w wr ∧ N0 ≤ wr.heap.size
theorem kin_succ (f : Int → Int) (j : Nat) : ((((List.range (j + 1)).filter fun k : Nat => decide (0 < f k)).length : Nat) : Int) = (((List.range j).filter fun k : Nat => decide (0 < f k)).length : Nat) + (if 0 < f j then 1 else 0) := by
  rw [List.range_succ, List.filter_append, List.length_append]
  by_cases h : 0 < f j
  · simp [h]
  · simp [h]
theorem wp_phi {P : Program} {c : Code} {Q : Exit → Act → World → Prop} {a : Act} {φ : World → Prop} {W : World} (hW : φ W) (h : ∀ W', φ W' → Code.wp P c Q a W') : Code.wp P c Q a W := h W hW
set_option maxHeartbeats 8000000 in
set_option maxRecDepth 4000 in
theorem walk (w : World) (a0 : Option Addr) (len0 cap0 : Nat) (z0 : List Int) (h0 : IsRow .i64 w a0 len0 cap0 z0) :
    Calls Try.prog 11 #[.slice a0 len0 cap0] w fun e w' => e = .returned (.bool true) ∧ Keep NoF w w' := by
  obtain ⟨l, hl, hwf, sl⟩ := h0.slG
  subst hl
  have c0 := sl.1; have c0m := sl.2.1
  unfold maxLen at c0m
  have SL := Lib.hid sl; have HWF := Lib.hid hwf
  obtain ⟨n, hn⟩ : ∃ n : Nat, min (l.length : Int) 30 = n := ⟨(min (l.length : Int) 30).toNat, by omega⟩
  have hn30 : n ≤ 30 := by omega
  have hnl : n ≤ l.length := by omega
  clear h0 sl hwf
  go_enter Try.func11, Try.ntmps11
  go_wp2_with fail
  refine (begun6_any w).mono ?_
  rintro e w1 ⟨rfl, hk⟩
  have K1 := Lib.hid hk
  clear hk
  go_wp2_with fail
  refine (newI_any 38 #[] w1).mono ?_
  rintro e w2 ⟨b, rfl, hB, hk, hb⟩
  have HB2 := Lib.hid hB; have K2 := Lib.hid (K1.out.trans' hk)
  have hs1 := K1.out.size
  have hwb : w.heap.size ≤ b := by omega
  have hb2 : b < w2.heap.size := lt_of_heap hB.row
  clear hB hk hb hs1
  obtain ⟨gc, hgc⟩ : ∃ gc, w2.heap.size = gc := ⟨_, rfl⟩
  have hcm : CM (w2.alloc (.cells #[.int .i64 0, .int .i64 0, .int .i64 0, .int .i64 0, .int .i64 0] 56 (0, 0))) gc (fun _ => 0) := by
    have := heap_new w2 (.cells #[.int .i64 0, .int .i64 0, .int .i64 0, .int .i64 0, .int .i64 0] 56 (0, 0))
    rw [hgc] at this
    exact this
  have hbgc : b < gc := by omega
  have hwgc : w.heap.size ≤ gc := by omega
  have E0 : Hid (EqS w (gc + 1) b gc 0 (w2.alloc (.cells #[.int .i64 0, .int .i64 0, .int .i64 0, .int .i64 0, .int .i64 0] 56 (0, 0))) (.slice none 0 0) [] (fun _ => 0)) :=
    Lib.hid ⟨HB2.out.keep ((Keep.refl NoF w2).alloc _) (fun f => f) (fun _ _ f => f), nofun, hcm, ⟨List.Pairwise.nil, by simp, by simp, rfl, fun _ => rfl⟩, K2.out.alloc _, by simp; omega⟩
  clear hcm hb2
  go_wp2_with fail
  go_loopw [7] (fun iv wr => ∃ (i : Nat) (v : Value) (lb : List (Int × Int)) (f : Int → Int), i ≤ n ∧ iv = .int .i64 i ∧ EqS w (gc + 1) b gc i wr v lb f) (fun iv _ => n - (intOf iv).toNat)
  case atStart => exact ⟨0, _, _, _, Nat.zero_le _, rfl, E0.out⟩
  case round =>
    obtain ⟨i, v, lb, f, hi, rfl, hB, hown, hcm, hr, hkw, hsz⟩ := hrel
    have HB := Lib.hid hB; have OWN := Lib.hid hown; have HCM := Lib.hid hcm; have HR := Lib.hid hr; have KW := Lib.hid hkw; have HSZ := Lib.hid hsz
    clear hB hown hcm hr hkw hsz E0
    have HGC : Hid (¬ (fun k => k = b ∨ v.ownBlock = some k) gc) := Lib.hid fun e => e.elim (fun e => by omega) (fun e => by have := OWN.out _ e; omega)
    by_cases hlt : i < n
    · have hlt2 : (i : Int) < n := by omega
      have hil : i < l.length := by omega
      have hil2 : (i : Int) < l.length := by omega
      have hil3 : decide (l.length ≤ i) = false := by simp; omega
      obtain ⟨g1, o1, rfl, d1⟩ := (SL.out.keep KW.out (fun _ _ f => f)).2.2 i hil
      obtain ⟨_, _, he, D0⟩ := SL.out.2.2 i hil
      injection he with he; injection he with he1 he2 _
      subst he1 he2
      have hg1 := World.block_lt_of_cell? w _ D0
      have HG1 : Hid (¬ (fun k => k = b ∨ v.ownBlock = some k) g1) := Lib.hid fun e => e.elim (fun e => by dsimp only at hg1; omega) (fun e => by have := OWN.out _ e; dsimp only at hg1; omega)
      have hxb := bounds_i64 (HWF.out _ (List.getElem_mem hil))
      generalize l[i] = x at d1 hxb D0
      obtain ⟨r, hr⟩ : ∃ r, x.tmod 5 = r := ⟨_, rfl⟩
      have hrb := tmod_bounds x 5 (by omega)
      rw [hr] at hrb
      have hkb := keyE_b x
      have hke : keyE x = (r + 5).tmod 5 := by unfold keyE; rw [hr]
      obtain ⟨k, hk⟩ : ∃ k : Nat, (r + 5).tmod 5 = k := ⟨((r + 5).tmod 5).toNat, by omega⟩
      have hk5 : k < 5 := by omega
      have hk6 : (k : Int) < 5 := by omega
      have hkx : keyE x = k := by rw [hke, hk]
      have dc := HCM.out.cell k hk5
      have hfz : wr.frozen? ⟨gc, k, none⟩ = false := free_of_heap HCM.out k
      have hfb : 0 ≤ f k ∧ f k ≤ 31 := by
        have h1 := (cnt_pos keyE lb HR.out.pos k).1
        have h2 := HR.out.add keyE_C2 (t := x) hxb 0 (by rw [hkx, ← HR.out.cnt]; omega)
        obtain ⟨q1, _⟩ := sum_mem lb HR.out.pos
        have h3 : cntK keyE lb k ≤ sumI lb := cnt_le_sum keyE lb HR.out.pos k
        rw [HR.out.sum] at h3
        rw [HR.out.cnt] at h1 h3
        omega
      obtain ⟨ck, hck⟩ : ∃ ck, f k + 1 = ck := ⟨_, rfl⟩
      have hadd := HR.out.add keyE_C2 (t := x) hxb 1 (by rw [hkx]; omega)
      have hnow : nowWI cmpE lb x 1 = ck := by rw [hadd.2, hkx, hck]
      have HR2 := Lib.hid (rep_congr hadd.1 (s' := ((i + 1 : Nat) : Int)) (f' := fun j => if j = (k : Int) then f j + 1 else f j) (by push_cast; rfl) (fun j => by rw [hkx]))
      have hcall := fun W hW => addE_any b v lb x 1 W hW HR.out (by omega) hxb (by omega)
      have HSET : Hid (CM (wr.setCell ⟨gc, k, none⟩ (.int .i64 ck)) gc (fun j => if j = (k : Int) then f j + 1 else f j)) := Lib.hid (HCM.out.set k ck _ (by rw [if_pos rfl, hck]) (fun j hj hne => by rw [if_neg (by omega)]))
      have HNOW := Lib.hid hnow
      have HADD := Lib.hid hcall
      have hne : (ck != ck) = false := by simp
      have D1 : Hid (∀ W, Keep NoF w W → W.cell? ⟨g1, o1 + i, none⟩ = some (.int .i64 x)) := Lib.hid fun W hW => hW.cell' D0 (fun f => f)
      clear hke hkx hadd hnow hcall D0 hg1
      go_upto_region 12 with fail
      refine wp_phi (φ := fun W => Keep NoF w W ∧ BagI W b 38 #[] v lb ∧ CM W gc (fun j => if j = (k : Int) then f j + 1 else f j) ∧ gc + 1 ≤ W.heap.size) (by
        have hks : Keep (fun j => j = gc) wr (wr.setCell ⟨gc, k, none⟩ (.int .i64 ck)) := (Keep.refl (fun j => j = gc) wr).setCell (p := ⟨gc, k, none⟩) (fun _ => rfl) _
        exact ⟨KW.out.trans hks (fun _ _ f => f) (fun j hj f => by omega), HB.out.keep hks (fun e => by omega) (fun j hj e => by have := OWN.out j hj; omega), HSET.out, Nat.le_trans HSZ.out hks.size⟩) ?_
      rintro wM ⟨hkM, hBM, hCM, hsM⟩
      have KM := Lib.hid hkM; have HBM := Lib.hid hBM; have HCM2 := Lib.hid hCM; have HSM := Lib.hid hsM
      have D2 : Hid (wM.drew.cell? ⟨gc, k, none⟩ = some (.int .i64 ck)) := Lib.hid (by
        have := hCM.cell k hk5
        rw [if_pos rfl, hck] at this
        exact this)
      have D1s := D1
      clear D1
      have D1 : Hid (wM.drew.cell? ⟨g1, o1 + i, none⟩ = some (.int .i64 x)) := Lib.hid (D1s.out wM.drew hkM.drew)
      clear hkM hBM hCM hsM dc d1 hfz
      refine wp_region_noPanic ?_
      refine wp_region_held_drew (S := fun W' : World => W'.cell? ⟨g1, o1 + i, none⟩ = some (.int .i64 x) ∧ W'.cell? ⟨gc, k, none⟩ = some (.int .i64 ck)) (by kernel_rfl) (⟨D1.out, D2.out⟩) (fun hHeld => ?_)
      refine wpAnyH_take (i := 0) (oi := ?oP0) (v := ?vP0) ?hiP0 (by kernel_rfl) (by kernel_rfl) (by kernel_rfl) (fun _ _ _ h => h) (Or.inl ⟨?wP0, ?yP0⟩) (by assumption) ?rP0
      case hiP0 => (simp only [List.getElem?_toArray, List.getElem?_cons_zero]; try rfl)
      case wP0 => rfl
      case yP0 => (intro w hSw; obtain ⟨hSa, hSb⟩ := hSw; go_simp; (try with_reducible rfl))
      (try simp only [Act.put, List.setIfInBounds_toArray, List.set_cons_zero, List.set_cons_succ])
      refine wpAnyH_take (i := 1) (oi := ?oP1) (v := ?vP1) ?hiP1 (by kernel_rfl) (by kernel_rfl) (by kernel_rfl) (fun _ _ _ h => h) (Or.inl ⟨?wP1, ?yP1⟩) (by assumption) ?rP1
      case hiP1 => (simp only [List.getElem?_toArray, List.getElem?_cons_succ, List.getElem?_cons_zero]; try rfl)
      case wP1 => rfl
      case yP1 => (intro w hSw; obtain ⟨hSa, hSb⟩ := hSw; go_simp; (try with_reducible rfl))
      (try simp only [Act.put, List.setIfInBounds_toArray, List.set_cons_zero, List.set_cons_succ])
      refine wpAnyH_take (i := 2) (oi := ?oP2) (v := ?vP2) ?hiP2 (by kernel_rfl) (by kernel_rfl) (by kernel_rfl) (fun _ _ _ h => h) (Or.inl ⟨?wP2, ?yP2⟩) (by assumption) ?rP2
      case hiP2 => (simp only [List.getElem?_toArray, List.getElem?_cons_succ, List.getElem?_cons_zero]; try rfl)
      case wP2 => rfl
      case yP2 => (intro w hSw; obtain ⟨hSa, hSb⟩ := hSw; go_simp; (try with_reducible rfl))
      (try simp only [Act.put, List.setIfInBounds_toArray, List.set_cons_zero, List.set_cons_succ])
      refine wpAnyH_take (i := 3) (oi := ?oP3) (v := ?vP3) ?hiP3 (by kernel_rfl) (by kernel_rfl) (by kernel_rfl) (fun _ _ _ h => h) (Or.inl ⟨?wP3, ?yP3⟩) (by assumption) ?rP3
      case hiP3 => (simp only [List.getElem?_toArray, List.getElem?_cons_succ, List.getElem?_cons_zero]; try rfl)
      case wP3 => rfl
      case yP3 => (intro w hSw; obtain ⟨hSa, hSb⟩ := hSw; go_simp; (try with_reducible rfl))
      (try simp only [Act.put, List.setIfInBounds_toArray, List.set_cons_zero, List.set_cons_succ])
      refine wpAnyH_take (i := 4) (oi := ?oP4) (v := ?vP4) ?hiP4 (by kernel_rfl) (by kernel_rfl) (by kernel_rfl) (fun _ _ _ h => h) (Or.inl ⟨?wP4, ?yP4⟩) (by assumption) ?rP4
      case hiP4 => (simp only [List.getElem?_toArray, List.getElem?_cons_succ, List.getElem?_cons_zero]; try rfl)
      case wP4 => rfl
      case yP4 => (intro w hSw; obtain ⟨hSa, hSb⟩ := hSw; go_simp; (try with_reducible rfl))
      (try simp only [Act.put, List.setIfInBounds_toArray, List.set_cons_zero, List.set_cons_succ])
      refine wpAnyH_take (i := 6) (oi := ?oP6) (v := ?vP6) ?hiP6 (by kernel_rfl) (by kernel_rfl) (by kernel_rfl) (fun _ _ _ h => h) (Or.inl ⟨?wP6, ?yP6⟩) (by assumption) ?rP6
      case hiP6 => (simp only [List.getElem?_toArray, List.getElem?_cons_succ, List.getElem?_cons_zero]; try rfl)
      case wP6 => rfl
      case yP6 => (intro w hSw; obtain ⟨hSa, hSb⟩ := hSw; go_simp; (try with_reducible rfl))
      (try simp only [Act.put, List.setIfInBounds_toArray, List.set_cons_zero, List.set_cons_succ])
      refine wpAnyH_take (i := 7) (oi := ?oP7) (v := ?vP7) ?hiP7 (by kernel_rfl) (by kernel_rfl) (by kernel_rfl) (fun _ _ _ h => h) (Or.inl ⟨?wP7, ?yP7⟩) (by assumption) ?rP7
      case hiP7 => (simp only [List.getElem?_toArray, List.getElem?_cons_succ, List.getElem?_cons_zero]; try rfl)
      case wP7 => rfl
      case yP7 => (intro w hSw; obtain ⟨hSa, hSb⟩ := hSw; go_simp; (try with_reducible rfl))
      (try simp only [Act.put, List.setIfInBounds_toArray, List.set_cons_zero, List.set_cons_succ])
      refine wpAnyH_take (i := 8) (oi := ?oP8) (v := ?vP8) ?hiP8 (by kernel_rfl) (by kernel_rfl) (by kernel_rfl) (fun _ _ _ h => h) (Or.inl ⟨?wP8, ?yP8⟩) (by assumption) ?rP8
      case hiP8 => (simp only [List.getElem?_toArray, List.getElem?_cons_succ, List.getElem?_cons_zero]; try rfl)
      case wP8 => rfl
      case yP8 => (intro w hSw; obtain ⟨hSa, hSb⟩ := hSw; go_simp; (try with_reducible rfl))
      (try simp only [Act.put, List.setIfInBounds_toArray, List.set_cons_zero, List.set_cons_succ])
      refine wpAnyH_ready (rs := [5]) (by kernel_rfl) (by simp) ?_
      refine AllReadyH.cons (o := ?oP5) ?hiP5 (fun K hK => ?_) AllReadyH.nil
      case hiP5 => (simp only [List.getElem?_toArray, List.getElem?_cons_succ, List.getElem?_cons_zero]; try rfl)
      go_simp
      (go_at_call 15; refine (HADD.out _ (HBM.out.keep (Keep.refl NoF wM).drew (fun f => f) (fun _ _ f => f))).mono ?_; rintro e w8 ⟨v8, rfl, hB8, hk8, hf8⟩; have HB8 := Lib.hid hB8; have HK8 := Lib.hid (hk8.of_drew : Keep (fun k => k = b ∨ v.ownBlock = some k) wM w8); have HF8 := Lib.hid hf8; clear hB8 hk8 hf8)
      go_wp2_with fail
      refine hK.out _ _ (⟨HK8.out.cell' D1.out HG1.out, HK8.out.cell' D2.out HGC.out⟩) (fun hHeld => ?_)
      clear hK K
      (try simp only [Act.put, List.setIfInBounds_toArray, List.set_cons_zero, List.set_cons_succ])
      refine wpAnyH_take (i := 9) (oi := ?oP9) (v := ?vP9) ?hiP9 (by kernel_rfl) (by kernel_rfl) (by kernel_rfl) (fun _ _ _ h => h) (Or.inl ⟨?wP9, ?yP9⟩) (by assumption) ?rP9
      case hiP9 => (simp only [List.getElem?_toArray, List.getElem?_cons_succ, List.getElem?_cons_zero]; try rfl)
      case wP9 => rfl
      case yP9 => (intro w hSw; obtain ⟨hSa, hSb⟩ := hSw; go_simp; (try with_reducible rfl))
      (try simp only [Act.put, List.setIfInBounds_toArray, List.set_cons_zero, List.set_cons_succ])
      refine wpAnyH_done (by kernel_rfl) ?_ _
      refine NoPanic.normal ?_
      rw [HNOW.out]
      have HC8 := Lib.hid (HCM2.out.keep HK8.out HGC.out)
      have K8 := Lib.hid (KM.out.trans HK8.out (fun _ _ f => f) (fun j hj f => f.elim (fun e => by omega) (fun e => by have := OWN.out j e; omega)))
      go_wp2_with fail
      go_roundw
      case rel => exact ⟨i + 1, v8, _, _, by omega, by go_num, HB8.out, fun j hj => by
          rcases HF8.out j hj with e | e
          · exact OWN.out j e
          · exact Nat.le_trans HSM.out e, HC8.out, HR2.out, K8.out, Nat.le_trans HSM.out HK8.out.size⟩
      case measure => simp [intOf]; omega
    · have hlt2 : ¬ (i : Int) < n := by omega
      obtain rfl : i = n := by omega
      obtain ⟨n, rfl⟩ : ∃ n, n = i := ⟨_, rfl⟩
      have E1 : Hid (EqS w (gc + 1) b gc n wr v lb f) := Lib.hid ⟨HB.out, OWN.out, HCM.out, HR.out, KW.out, HSZ.out⟩
      clear HB OWN HCM HR KW HSZ HGC
      go_wp2_with fail
      go_loopw [9, 10] (fun kv jv wr => ∃ (k : Nat) (v : Value) (lb : List (Int × Int)), k ≤ 5 ∧ jv = .int .i64 k ∧ kv = .int .i64 (((List.range k).filter fun k : Nat => decide (0 < f k)).length : Nat) ∧ EqS w (gc + 1) b gc n wr v lb f) (fun _ jv _ => 5 - (intOf jv).toNat)
      case atStart => exact ⟨0, _, _, by omega, rfl, rfl, E1.out⟩
      case round =>
        obtain ⟨k, v, lb, hk, rfl, rfl, hB, hown, hcm, hr, hkw, hsz⟩ := hrel
        obtain ⟨wM, rfl⟩ : ∃ W, W = wr := ⟨_, rfl⟩
        have HBM := Lib.hid hB; have OWN := Lib.hid hown; have HCM := Lib.hid hcm; have HR := Lib.hid hr; have KW := Lib.hid hkw; have HSZ := Lib.hid hsz
        clear hB hown hcm hr hkw hsz E1
        have HGC : Hid (¬ (fun k => k = b ∨ v.ownBlock = some k) gc) := Lib.hid fun e => e.elim (fun e => by omega) (fun e => by have := OWN.out _ e; omega)
        by_cases hk5 : k < 5
        · have hk6 : (k : Int) < 5 := by omega
          have dc := HCM.out.cell k hk5
          have hwk : wfE (k : Int) := by unfold wfE; omega
          have hks := kin_succ f k
          have h1 := (cnt_pos keyE lb HR.out.pos k).1
          rw [HR.out.cnt] at h1
          have hadd := HR.out.add keyE_C2 (t := (k : Int)) hwk 0 (by rw [keyE_small k hk5]; omega)
          obtain ⟨ck, hck⟩ : ∃ ck, f k = ck := ⟨_, rfl⟩
          have hnow : nowWI cmpE lb k 0 = ck := by rw [hadd.2, keyE_small k hk5, hck]; omega
          have HR2 := Lib.hid (rep_congr hadd.1 (s' := (n : Int)) (f' := f) (by omega) (fun j => by split <;> omega))
          have HADD := Lib.hid (fun W hW => countE_any b v lb k W hW HR.out (by omega) hwk)
          have HNOW := Lib.hid hnow
          have hne : (ck != ck) = false := by simp
          rw [hck] at dc hks h1
          have hcb : ((List.range k).filter fun k : Nat => decide (0 < f k)).length ≤ 5 := Nat.le_trans (List.length_filter_le _ _) (by simp; omega)
          generalize ((List.range k).filter fun k : Nat => decide (0 < f k)).length = cj at hks hcb ⊢
          have D2 : Hid (wM.drew.cell? ⟨gc, k, none⟩ = some (.int .i64 ck)) := Lib.hid dc
          clear hadd hnow
          by_cases hp : 0 < ck
          · rw [if_pos hp] at hks
            have HKS := Lib.hid hks
            clear hks
            go_upto_region 20 with fail
            refine wp_region_noPanic ?_
            refine wp_region_held_drew (S := fun W' : World => W'.cell? ⟨gc, k, none⟩ = some (.int .i64 ck)) (by kernel_rfl) (D2.out) (fun hHeld => ?_)
            refine wpAnyH_take (i := 0) (oi := ?oQ0) (v := ?vQ0) ?hiQ0 (by kernel_rfl) (by kernel_rfl) (by kernel_rfl) (fun _ _ _ h => h) (Or.inl ⟨?wQ0, ?yQ0⟩) (by assumption) ?rQ0
            case hiQ0 => (simp only [List.getElem?_toArray, List.getElem?_cons_zero]; try rfl)
            case wQ0 => rfl
            case yQ0 => (intro w hSw; (try dsimp only at hSw); go_simp; (try with_reducible rfl))
            (try simp only [Act.put, List.setIfInBounds_toArray, List.set_cons_zero, List.set_cons_succ])
            refine wpAnyH_take (i := 1) (oi := ?oQ1) (v := ?vQ1) ?hiQ1 (by kernel_rfl) (by kernel_rfl) (by kernel_rfl) (fun _ _ _ h => h) (Or.inl ⟨?wQ1, ?yQ1⟩) (by assumption) ?rQ1
            case hiQ1 => (simp only [List.getElem?_toArray, List.getElem?_cons_succ, List.getElem?_cons_zero]; try rfl)
            case wQ1 => rfl
            case yQ1 => (intro w hSw; (try dsimp only at hSw); go_simp; (try with_reducible rfl))
            (try simp only [Act.put, List.setIfInBounds_toArray, List.set_cons_zero, List.set_cons_succ])
            refine wpAnyH_take (i := 3) (oi := ?oQ3) (v := ?vQ3) ?hiQ3 (by kernel_rfl) (by kernel_rfl) (by kernel_rfl) (fun _ _ _ h => h) (Or.inl ⟨?wQ3, ?yQ3⟩) (by assumption) ?rQ3
            case hiQ3 => (simp only [List.getElem?_toArray, List.getElem?_cons_succ, List.getElem?_cons_zero]; try rfl)
            case wQ3 => rfl
            case yQ3 => (intro w hSw; (try dsimp only at hSw); go_simp; (try with_reducible rfl))
            (try simp only [Act.put, List.setIfInBounds_toArray, List.set_cons_zero, List.set_cons_succ])
            refine wpAnyH_take (i := 4) (oi := ?oQ4) (v := ?vQ4) ?hiQ4 (by kernel_rfl) (by kernel_rfl) (by kernel_rfl) (fun _ _ _ h => h) (Or.inl ⟨?wQ4, ?yQ4⟩) (by assumption) ?rQ4
            case hiQ4 => (simp only [List.getElem?_toArray, List.getElem?_cons_succ, List.getElem?_cons_zero]; try rfl)
            case wQ4 => rfl
            case yQ4 => (intro w hSw; (try dsimp only at hSw); go_simp; (try with_reducible rfl))
            (try simp only [Act.put, List.setIfInBounds_toArray, List.set_cons_zero, List.set_cons_succ])
            refine wpAnyH_take (i := 5) (oi := ?oQ5) (v := ?vQ5) ?hiQ5 (by kernel_rfl) (by kernel_rfl) (by kernel_rfl) (fun _ _ _ h => h) (Or.inl ⟨?wQ5, ?yQ5⟩) (by assumption) ?rQ5
            case hiQ5 => (simp only [List.getElem?_toArray, List.getElem?_cons_succ, List.getElem?_cons_zero]; try rfl)
            case wQ5 => rfl
            case yQ5 => (intro w hSw; (try dsimp only at hSw); go_simp; (try with_reducible rfl))
            (try simp only [Act.put, List.setIfInBounds_toArray, List.set_cons_zero, List.set_cons_succ])
            refine wpAnyH_ready (rs := [2]) (by kernel_rfl) (by simp) ?_
            refine AllReadyH.cons (o := ?oQ2) ?hiQ2 (fun K hK => ?_) AllReadyH.nil
            case hiQ2 => (simp only [List.getElem?_toArray, List.getElem?_cons_succ, List.getElem?_cons_zero]; try rfl)
            go_simp
            (go_at_call 36; refine (HADD.out _ (HBM.out.keep (Keep.refl NoF wM).drew (fun f => f) (fun _ _ f => f))).mono ?_; rintro e w8 ⟨v8, rfl, hB8, hk8, hf8⟩; have HB8 := Lib.hid hB8; have HK8 := Lib.hid (hk8.of_drew : Keep (fun k => k = b ∨ v.ownBlock = some k) wM w8); have HF8 := Lib.hid hf8; clear hB8 hk8 hf8)
            go_wp2_with fail
            refine hK.out _ _ (HK8.out.cell' D2.out HGC.out) (fun hHeld => ?_)
            clear hK K
            (try simp only [Act.put, List.setIfInBounds_toArray, List.set_cons_zero, List.set_cons_succ])
            refine wpAnyH_take (i := 6) (oi := ?oQ6) (v := ?vQ6) ?hiQ6 (by kernel_rfl) (by kernel_rfl) (by kernel_rfl) (fun _ _ _ h => h) (Or.inl ⟨?wQ6, ?yQ6⟩) (by assumption) ?rQ6
            case hiQ6 => (simp only [List.getElem?_toArray, List.getElem?_cons_succ, List.getElem?_cons_zero]; try rfl)
            case wQ6 => rfl
            case yQ6 => (intro w hSw; (try dsimp only at hSw); go_simp; (try with_reducible rfl))
            (try simp only [Act.put, List.setIfInBounds_toArray, List.set_cons_zero, List.set_cons_succ])
            refine wpAnyH_done (by kernel_rfl) ?_ _
            refine NoPanic.normal ?_
            rw [HNOW.out]
            have HC8 := Lib.hid (HCM.out.keep HK8.out HGC.out)
            have K8 := Lib.hid (KW.out.trans HK8.out (fun _ _ f => f) (fun j hj f => f.elim (fun e => by omega) (fun e => by have := OWN.out j e; omega)))
            go_wp2_with fail
            go_roundw
            case rel => exact ⟨k + 1, v8, _, by omega, by go_num, by rw [HKS.out], HB8.out, fun j hj => by
                rcases HF8.out j hj with e | e
                · exact OWN.out j e
                · exact Nat.le_trans HSZ.out e, HC8.out, HR2.out, K8.out, Nat.le_trans HSZ.out HK8.out.size⟩
            case measure => simp [intOf]; omega
          · rw [if_neg hp, Int.add_zero] at hks
            have HKS := Lib.hid hks
            clear hks
            go_upto_region 20 with fail
            refine wp_region_noPanic ?_
            refine wp_region_held_drew (S := fun W' : World => W'.cell? ⟨gc, k, none⟩ = some (.int .i64 ck)) (by kernel_rfl) (D2.out) (fun hHeld => ?_)
            refine wpAnyH_take (i := 0) (oi := ?oU0) (v := ?vU0) ?hiU0 (by kernel_rfl) (by kernel_rfl) (by kernel_rfl) (fun _ _ _ h => h) (Or.inl ⟨?wU0, ?yU0⟩) (by assumption) ?rU0
            case hiU0 => (simp only [List.getElem?_toArray, List.getElem?_cons_zero]; try rfl)
            case wU0 => rfl
            case yU0 => (intro w hSw; (try dsimp only at hSw); go_simp; (try with_reducible rfl))
            (try simp only [Act.put, List.setIfInBounds_toArray, List.set_cons_zero, List.set_cons_succ])
            refine wpAnyH_take (i := 1) (oi := ?oU1) (v := ?vU1) ?hiU1 (by kernel_rfl) (by kernel_rfl) (by kernel_rfl) (fun _ _ _ h => h) (Or.inl ⟨?wU1, ?yU1⟩) (by assumption) ?rU1
            case hiU1 => (simp only [List.getElem?_toArray, List.getElem?_cons_succ, List.getElem?_cons_zero]; try rfl)
            case wU1 => rfl
            case yU1 => (intro w hSw; (try dsimp only at hSw); go_simp; (try with_reducible rfl))
            (try simp only [Act.put, List.setIfInBounds_toArray, List.set_cons_zero, List.set_cons_succ])
            refine wpAnyH_take (i := 3) (oi := ?oU3) (v := ?vU3) ?hiU3 (by kernel_rfl) (by kernel_rfl) (by kernel_rfl) (fun _ _ _ h => h) (Or.inl ⟨?wU3, ?yU3⟩) (by assumption) ?rU3
            case hiU3 => (simp only [List.getElem?_toArray, List.getElem?_cons_succ, List.getElem?_cons_zero]; try rfl)
            case wU3 => rfl
            case yU3 => (intro w hSw; (try dsimp only at hSw); go_simp; (try with_reducible rfl))
            (try simp only [Act.put, List.setIfInBounds_toArray, List.set_cons_zero, List.set_cons_succ])
            refine wpAnyH_take (i := 4) (oi := ?oU4) (v := ?vU4) ?hiU4 (by kernel_rfl) (by kernel_rfl) (by kernel_rfl) (fun _ _ _ h => h) (Or.inl ⟨?wU4, ?yU4⟩) (by assumption) ?rU4
            case hiU4 => (simp only [List.getElem?_toArray, List.getElem?_cons_succ, List.getElem?_cons_zero]; try rfl)
            case wU4 => rfl
            case yU4 => (intro w hSw; (try dsimp only at hSw); go_simp; (try with_reducible rfl))
            (try simp only [Act.put, List.setIfInBounds_toArray, List.set_cons_zero, List.set_cons_succ])
            refine wpAnyH_take (i := 5) (oi := ?oU5) (v := ?vU5) ?hiU5 (by kernel_rfl) (by kernel_rfl) (by kernel_rfl) (fun _ _ _ h => h) (Or.inl ⟨?wU5, ?yU5⟩) (by assumption) ?rU5
            case hiU5 => (simp only [List.getElem?_toArray, List.getElem?_cons_succ, List.getElem?_cons_zero]; try rfl)
            case wU5 => rfl
            case yU5 => (intro w hSw; (try dsimp only at hSw); go_simp; (try with_reducible rfl))
            (try simp only [Act.put, List.setIfInBounds_toArray, List.set_cons_zero, List.set_cons_succ])
            refine wpAnyH_ready (rs := [2]) (by kernel_rfl) (by simp) ?_
            refine AllReadyH.cons (o := ?oU2) ?hiU2 (fun K hK => ?_) AllReadyH.nil
            case hiU2 => (simp only [List.getElem?_toArray, List.getElem?_cons_succ, List.getElem?_cons_zero]; try rfl)
            go_simp
            (go_at_call 36; refine (HADD.out _ (HBM.out.keep (Keep.refl NoF wM).drew (fun f => f) (fun _ _ f => f))).mono ?_; rintro e w8 ⟨v8, rfl, hB8, hk8, hf8⟩; have HB8 := Lib.hid hB8; have HK8 := Lib.hid (hk8.of_drew : Keep (fun k => k = b ∨ v.ownBlock = some k) wM w8); have HF8 := Lib.hid hf8; clear hB8 hk8 hf8)
            go_wp2_with fail
            refine hK.out _ _ (HK8.out.cell' D2.out HGC.out) (fun hHeld => ?_)
            clear hK K
            (try simp only [Act.put, List.setIfInBounds_toArray, List.set_cons_zero, List.set_cons_succ])
            refine wpAnyH_take (i := 6) (oi := ?oU6) (v := ?vU6) ?hiU6 (by kernel_rfl) (by kernel_rfl) (by kernel_rfl) (fun _ _ _ h => h) (Or.inl ⟨?wU6, ?yU6⟩) (by assumption) ?rU6
            case hiU6 => (simp only [List.getElem?_toArray, List.getElem?_cons_succ, List.getElem?_cons_zero]; try rfl)
            case wU6 => rfl
            case yU6 => (intro w hSw; (try dsimp only at hSw); go_simp; (try with_reducible rfl))
            (try simp only [Act.put, List.setIfInBounds_toArray, List.set_cons_zero, List.set_cons_succ])
            refine wpAnyH_done (by kernel_rfl) ?_ _
            refine NoPanic.normal ?_
            rw [HNOW.out]
            have HC8 := Lib.hid (HCM.out.keep HK8.out HGC.out)
            have K8 := Lib.hid (KW.out.trans HK8.out (fun _ _ f => f) (fun j hj f => f.elim (fun e => by omega) (fun e => by have := OWN.out j e; omega)))
            go_wp2_with fail
            go_roundw
            case rel => exact ⟨k + 1, v8, _, by omega, by go_num, by rw [HKS.out], HB8.out, fun j hj => by
                rcases HF8.out j hj with e | e
                · exact OWN.out j e
                · exact Nat.le_trans HSZ.out e, HC8.out, HR2.out, K8.out, Nat.le_trans HSZ.out HK8.out.size⟩
            case measure => simp [intOf]; omega
        · have hk6 : ¬ (k : Int) < 5 := by omega
          obtain rfl : k = 5 := by omega
          obtain ⟨b1, b2⟩ := HR.out.bounds (by omega)
          have hkl := kinds_len HR.out
          rw [← hkl]
          have h1 := kindsI_any b _ _ v lb wM HBM.out
          have h2 := lenI_any b _ _ v lb wM HBM.out b1 b2
          rw [HR.out.sum] at h2
          have h3 := eachI_any b _ _ v lb wM HBM.out b1
          generalize lb.length = N at h1 h3 ⊢
          have H1 := Lib.hid h1; have H2 := Lib.hid h2; have H3 := Lib.hid h3
          clear h1 h2 h3 hkl b1 b2
          go_wp2_with fail
          refine H1.out.mono ?_
          rintro e w' ⟨rfl, hw⟩
          obtain rfl : wM = w' := hw.symm
          go_wp2_with fail
          refine H2.out.mono ?_
          rintro e w' ⟨rfl, hw⟩
          obtain rfl : wM = w' := hw.symm
          go_wp2_with fail
          refine H3.out.mono ?_
          rintro e w8 ⟨a8, c8, rfl, _, _, hk8⟩
          have K8 := Lib.hid (KW.out.trans' hk8)
          clear hk8
          go_wp2_with fail
          go_ret
          exact ⟨rfl, K8.out⟩

set_option linter.unusedVariables false
set_option maxRecDepth 100000 in
theorem lifted (os : Os) (started : os.Started) (H : Type) (enc : TypeId × Value → H) :
    ReturnsInHanded {} Try.checked os 11 .any (Rows.bagEqualSpec.pre6 enc Try.prog Try.f11 Rows.bagEqualRow.domain false) (Rows.bagEqualSpec.post enc Try.prog Try.f11 false true false false) := by
  refine returnsInHanded_of_change (C := Try.checked) own started (by kernel_rfl) Try.func11
    (ChangeSpec.witness6 (enc := enc) (C := Try.checked) false ⟨#[], #[.slice none 0 0], []⟩ 8 (by kernel_rfl) (by kernel_rfl) (by kernel_rfl) (by kernel_rfl)) ?_
  intro W base args ds gs before hval0 hW hcnd _
  have hval : ∀ (j : Nat) t v, Try.f11.params[j]? = some t → args[j]? = some v → Value.okWide Try.prog W .any base t v := hval0
  have hW' := hW
  obtain ⟨p, q, hA0, hV, rfl, hfz, hnd⟩ := hW
  have hA : DataW.TrodAll enc Try.prog W 0 (fun _ => true) true Try.f11.params.toList args.toList ds p := hA0
  rw [Try.params11] at hA hval
  obtain ⟨v0, vs0, d0, ds0, p0, q0, hargs, rfl, rfl, h0, r0⟩ := trodAll_cons hA
  obtain ⟨rfl, rfl, rfl⟩ := trodAll_nil r0
  obtain rfl : args = #[v0] := by cases args; simp_all
  obtain ⟨rfl, rfl⟩ := trodVars_none hV
  obtain ⟨a0, len0, cap0, rfl⟩ := okWide_slice Try.underlying22 (hval 0 22 v0 rfl rfl)
  have k0 := h0
  have lt0 : ∀ x ∈ p0, x.block < W.heap.size := by obtain ⟨m, hm⟩ := k0; exact DataW.trod_lt m _ _ _ hm
  obtain ⟨z0, w0⟩ : ∃ zs, IsRow .i64 W a0 len0 cap0 zs := by
    obtain ⟨fuel, hf⟩ := h0
    rcases open_ints Try.underlying22 Try.underlying3 (by kernel_rfl) hf with ⟨hcs, _⟩ | ⟨x, l, c, zs, hcs, _, hl, hm, hz, _, hcell, hwz⟩
    · simp [Value.cells] at hcs
      obtain ⟨rfl, rfl, rfl⟩ := hcs
      exact ⟨[], .inl ⟨rfl, rfl, rfl, rfl⟩⟩
    · simp [Value.cells] at hcs
      obtain ⟨rfl, rfl, rfl⟩ := hcs
      exact ⟨zs, .inr ⟨_, rfl, hl, hm, by simpa using hz, hcell, hwz⟩⟩
  clear hA0 hval0
  refine (walk W a0 len0 cap0 z0 w0).mono fun e W' ⟨he, hk⟩ => ?_
  subst he
  have bel := Keep.below hk
  exact ⟨_, rfl, _, _, _, [], _, [], hW', trodAll_mk1 (shut_bool Try.underlying4 _), (trodAll_cons_mk (Below.trod laidOut (by kernel_rfl) (of_decide_eq_true (by kernel_rfl)) k0 bel lt0) trodAll_mk0), rfl, bel.frame _, fun h => by cases h⟩

theorem over : Rows.bagEqualRow.holds Try.pinned (OpenSpec.ofChange Rows.bagEqualSpec) :=
  OpenClaim.holds_of_wide 11 Try.f11 rfl rfl rfl rfl rfl rfl rfl ⟨rfl, rfl, rfl, rfl, rfl⟩ rfl rfl rfl rfl rfl (by kernel_rfl) Try.func11 (by kernel_rfl)
    (of_decide_eq_true (by kernel_rfl)) (by unfold Func.isWrapper; rw [if_neg (of_decide_eq_false (by kernel_rfl))]; exact ⟨rfl, rfl⟩)
    (fun os started H enc _ => lifted os started H enc)

/-- The statement. -/
theorem proved : Rows.BagEqualSaid := over
#print axioms proved
end Go.Proofs.Ytidpfkehmokdfaa.bagEqual
