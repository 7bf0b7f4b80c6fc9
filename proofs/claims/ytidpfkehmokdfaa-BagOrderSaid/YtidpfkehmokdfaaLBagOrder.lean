/- BagOrder: the law returns true and changes nothing that was there. No conditions. -/
import Derived.Test.YtidpfkehmokdfaaBy6
import Derived.Test.YtidpfkehmokdfaaRows
import Derived.WalkKit
import Derived.ProofKit
import Derived.OpenShut
import Derived.ShutString
import Derived.ChangeOld
import Derived.Below
namespace Go.Proofs.Ytidpfkehmokdfaa.bagOrder
open Go Go.ChangeShapes Go.WideShapes Go.ChangeAt Go.RowKit
open Go.ChangeMaps (open_string shut_string)

theorem own : ownKnob Try.prog.godebug = none := by kernel_rfl
theorem laidOut : laidOutB Try.prog = true := by kernel_rfl

open Go.Proofs Go.RowKit Go.Maps Go.Sort Go.Shelf
structure Sta (w0 : World) (N0 a b qa qb : Nat) : Prop where
  lo : w0.heap.size ≤ a ∧ w0.heap.size ≤ b ∧ w0.heap.size ≤ qa ∧ w0.heap.size ≤ qb
  hi : a < N0 ∧ b < N0 ∧ qa < N0 ∧ qb < N0
  ne : a ≠ b ∧ qa ≠ a ∧ qa ≠ b ∧ qb ≠ a ∧ qb ≠ b
structure Two (w0 : World) (N0 a b qa qb : Nat) (wr : World) (va vb : Value) (la lb : List (Int × Int)) : Prop where
  A : BagI wr a 47 #[.pointer (some ⟨qa, 0, none⟩)] va la
  B : BagI wr b 47 #[.pointer (some ⟨qb, 0, none⟩)] vb lb
  oa : ∀ j, va.ownBlock = some j → N0 ≤ j
  ob : ∀ j, vb.ownBlock = some j → N0 ≤ j
  ne : ∀ j, va.ownBlock = some j → vb.ownBlock ≠ some j
  ca : wr.cell? ⟨qa, 0, none⟩ = some (.bool false)
  cb : wr.cell? ⟨qb, 0, none⟩ = some (.bool false)
  K : Keep NoF w0 wr
  sz : N0 ≤ wr.heap.size
theorem Sta.symm {w0 : World} {N0 a b qa qb : Nat} (h : Sta w0 N0 a b qa qb) : Sta w0 N0 b a qb qa :=
  ⟨⟨h.lo.2.1, h.lo.1, h.lo.2.2.2, h.lo.2.2.1⟩, ⟨h.hi.2.1, h.hi.1, h.hi.2.2.2, h.hi.2.2.1⟩, ⟨h.ne.1.symm, h.ne.2.2.2.2, h.ne.2.2.2.1, h.ne.2.2.1, h.ne.2.1⟩⟩
theorem Two.symm {w0 : World} {N0 a b qa qb : Nat} {wr : World} {va vb : Value} {la lb : List (Int × Int)} (h : Two w0 N0 a b qa qb wr va vb la lb) : Two w0 N0 b a qb qa wr vb va lb la :=
  ⟨h.B, h.A, h.ob, h.oa, fun j h1 h2 => h.ne j h2 h1, h.cb, h.ca, h.K, h.sz⟩
theorem Two.keepN {w0 : World} {N0 a b qa qb : Nat} {wr w' : World} {va vb : Value} {la lb : List (Int × Int)} (h : Two w0 N0 a b qa qb wr va vb la lb) (hk : Keep NoF wr w') : Two w0 N0 a b qa qb w' va vb la lb :=
  ⟨h.A.keep hk (fun f => f) (fun _ _ f => f), h.B.keep hk (fun f => f) (fun _ _ f => f), h.oa, h.ob, h.ne, hk.cell' h.ca (fun f => f), hk.cell' h.cb (fun f => f), h.K.trans' hk, Nat.le_trans h.sz hk.size⟩
theorem addA {w0 : World} {N0 a b qa qb : Nat} (st : Sta w0 N0 a b qa qb) {wr : World} {va vb : Value} {la lb : List (Int × Int)} (h : Two w0 N0 a b qa qb wr va vb la lb) {s : Int} {f : Int → Int} (hr : Rep (keyB false) okB la s f) (hs : s ≤ 1000) (t : Int) (ht : okB t) (n : Int) (hn : -1000 ≤ n ∧ n ≤ 1000) :
    Calls Try.prog 15 #[.pointer (some ⟨a, 0, none⟩), .int .i64 t, .int .i64 n] wr fun e w' => ∃ va', e = .returned (.int .i64 (nowWI (cmpB false) la t n)) ∧ Two w0 N0 a b qa qb w' va' vb (addWI (cmpB false) la t n) lb := by
  obtain ⟨b1, b2⟩ := hr.bounds (by omega)
  refine (addC_any (cmpB false) (keyB false) okB (keyB_C false) 47 #[.pointer (some ⟨qa, 0, none⟩)] enterB a va la t n wr h.A (lawB false qa t wr h.ca) hr.sort hr.ok ht b1 b2 (by omega)).mono ?_
  rintro e w' ⟨v', rfl, hB, hk, hf⟩
  have hlb := row_lt h.B.own
  refine ⟨v', rfl, hB, h.B.keep hk (fun e => e.elim (fun e => st.ne.1 e.symm) (fun e => by have := h.oa _ e; have := st.hi; omega)) (fun k hk e => e.elim (fun e => by have := h.ob k hk; have := st.hi; omega) (fun e => h.ne k e hk)), fun j hj => ?_, h.ob, fun j hj hj2 => ?_, hk.cell' h.ca (fun e => e.elim (fun e => st.ne.2.1 e) (fun e => by have := h.oa _ e; have := st.hi; dsimp only at *; omega)), hk.cell' h.cb (fun e => e.elim (fun e => st.ne.2.2.2.1 e) (fun e => by have := h.oa _ e; have := st.hi; dsimp only at *; omega)), h.K.trans hk (fun _ _ f => f) (fun j hj f => f.elim (fun e => by have := st.lo; omega) (fun e => by have := h.oa j e; have := st.hi; have := st.lo; omega)), Nat.le_trans h.sz hk.size⟩
  · rcases hf j hj with e | e
    · exact h.oa j e
    · have := h.sz; omega
  · rcases hf j hj with e | e
    · exact h.ne j e hj2
    · have := hlb j hj2; omega
def fC (X : Nat → Int) (i : Nat) (k : Int) : Int := (((List.range i).filter fun j => decide (keyB false (X j) = k)).length : Nat)
theorem fC_succ (X : Nat → Int) (i : Nat) (k : Int) : fC X (i + 1) k = if k = keyB false (X i) then fC X i k + 1 else fC X i k := by
  unfold fC
  rw [List.range_succ, List.filter_append, List.length_append]
  by_cases h : k = keyB false (X i)
  · rw [if_pos h, List.filter_cons_of_pos (by simp [h])]; simp
  · rw [if_neg h, List.filter_cons_of_neg (by simp; exact fun e => h e.symm)]; simp
theorem fC_nonneg (X : Nat → Int) (i : Nat) (k : Int) : 0 ≤ fC X i k := by unfold fC; omega
theorem fC_perm (X : Nat → Int) (n s : Nat) (hs : s < n) (k : Int) : fC (fun j => X ((j + s) % n)) n k = fC X n k := by
  have hp : ((List.range n).map fun j => (j + s) % n).Perm (List.range n) := by
    refine (List.perm_ext_iff_of_nodup ?_ List.nodup_range).2 fun x => ?_
    · rw [List.nodup_iff_pairwise_ne, List.pairwise_map]
      refine List.Pairwise.imp_of_mem ?_ List.nodup_range
      intro a b ha hb hab e
      have ha2 := List.mem_range.1 ha
      have hb2 := List.mem_range.1 hb
      have h1 : (a + s) % n = if a + s < n then a + s else a + s - n := by
        split
        · exact Nat.mod_eq_of_lt (by assumption)
        · rw [Nat.mod_eq_sub_mod (by omega), Nat.mod_eq_of_lt (by omega)]
      have h2 : (b + s) % n = if b + s < n then b + s else b + s - n := by
        split
        · exact Nat.mod_eq_of_lt (by assumption)
        · rw [Nat.mod_eq_sub_mod (by omega), Nat.mod_eq_of_lt (by omega)]
      rw [h1, h2] at e
      split at e <;> split at e <;> omega
    · rw [List.mem_map, List.mem_range]
      constructor
      · rintro ⟨j, _, rfl⟩; exact Nat.mod_lt _ (by omega)
      · intro hx
        refine ⟨(x + n - s) % n, List.mem_range.2 (Nat.mod_lt _ (by omega)), ?_⟩
        rw [Nat.mod_add_mod, show x + n - s + s = x + n by omega, Nat.add_mod_right, Nat.mod_eq_of_lt hx]
  unfold fC
  have h1 : ((List.range n).filter fun j => decide (keyB false (X ((j + s) % n)) = k)).length = (((List.range n).map fun j => (j + s) % n).filter fun j => decide (keyB false (X j) = k)).length := by
    rw [List.filter_map, List.length_map]; rfl
  rw [h1, (hp.filter _).length_eq]
theorem rep_congr {key : Int → Int} {ok : Int → Prop} {l : List (Int × Int)} {s s' : Int} {f f' : Int → Int} (h : Rep key ok l s f) (hs : s' = s) (hf : ∀ k, f' k = f k) : Rep key ok l s' f' := ⟨h.sort, h.ok, h.pos, by rw [hs]; exact h.sum, fun k => by rw [hf]; exact h.cnt k⟩
theorem rep_zero (X : Nat → Int) : Rep (keyB false) okB [] 0 (fC X 0) := ⟨List.Pairwise.nil, by simp, by simp, rfl, fun k => rfl⟩
set_option maxHeartbeats 8000000 in
set_option maxRecDepth 4000 in
theorem walk (w : World) (a0 : Option Addr) (len0 cap0 : Nat) (z0 : List Int) (h0 : IsRow .i64 w a0 len0 cap0 z0) (turn : Int) (ht0 : (Lit.int .i64 turn).wf = true) :
    Calls Try.prog 3 #[.slice a0 len0 cap0, .int .i64 turn] w fun e w' => e = .returned (.bool true) ∧ Keep NoF w w' := by
  obtain ⟨l, hl, hwf, sl⟩ := h0.slG
  subst hl
  have c0 := sl.1; have c0m := sl.2.1
  unfold maxLen at c0m
  have SL := Lib.hid sl; have HWF := Lib.hid hwf
  have hb2 := bounds_i64 ht0
  obtain ⟨n, hn⟩ : ∃ n : Nat, min (l.length : Int) 30 = n := ⟨(min (l.length : Int) 30).toNat, by omega⟩
  have hn30 : n ≤ 30 := by omega
  have hnl : n ≤ l.length := by omega
  obtain ⟨X, hX⟩ : ∃ X : Nat → Int, X = fun j => (l.getD j 0).tmod 50 := ⟨_, rfl⟩
  have HXB : Hid (∀ j, okB (X j)) := Lib.hid fun j => by
    rw [hX]
    have := tmod_bounds (l.getD j 0) 50 (by omega)
    unfold okB
    dsimp only
    omega
  have HXV : Hid (∀ j (hj : j < l.length), l[j].tmod 50 = X j) := Lib.hid fun j hj => by
    rw [hX]
    show _ = (l.getD j 0).tmod 50
    rw [List.getD_eq_getElem?_getD, List.getElem?_eq_getElem hj]; rfl
  clear h0 sl hwf ht0 hX
  go_enter Try.func3, Try.ntmps3
  go_wp2_with fail
  refine (begun6_any w).mono ?_
  rintro e w1 ⟨rfl, hk⟩
  have K1 := Lib.hid hk
  clear hk
  go_wp2_with fail
  refine (by_any false w1).mono ?_
  rintro e w2 ⟨qa, rfl, hqa, hk, hq1⟩
  have K2 := Lib.hid (K1.out.trans' hk); have CA := Lib.hid hqa
  have hqa2 : qa < w2.heap.size := World.block_lt_of_cell? w2 _ hqa
  have hs1 := K1.out.size
  have hs2 := hk.size
  clear hk hqa
  go_wp2_with fail
  refine (newI_any 47 #[.pointer (some ⟨qa, 0, none⟩)] w2).mono ?_
  rintro e w3 ⟨a, rfl, hA, hk, ha1⟩
  have K3 := Lib.hid (K2.out.trans' hk); have HA := Lib.hid hA; have CA3 := Lib.hid (hk.cell' CA.out (fun f => f))
  have ha2 : a < w3.heap.size := lt_of_heap hA.row
  have hs3 := hk.size
  clear hk hA CA
  go_wp2_with fail
  refine (by_any false w3).mono ?_
  rintro e w4 ⟨qb, rfl, hqb, hk, hq3⟩
  have K4 := Lib.hid (K3.out.trans' hk); have CB := Lib.hid hqb; have CA4 := Lib.hid (hk.cell' CA3.out (fun f => f)); have HA4 := Lib.hid (HA.out.keep hk (fun f => f) (fun _ _ f => f))
  have hqb2 : qb < w4.heap.size := World.block_lt_of_cell? w4 _ hqb
  have hs4 := hk.size
  clear hk hqb CA3 HA
  go_wp2_with fail
  refine (newI_any 47 #[.pointer (some ⟨qb, 0, none⟩)] w4).mono ?_
  rintro e w5 ⟨b, rfl, hB, hk, hb1⟩
  have hb3 : b < w5.heap.size := lt_of_heap hB.row
  have hs5 := hk.size
  have ST : Hid (Sta w w5.heap.size a b qa qb) := Lib.hid ⟨⟨by omega, by omega, by omega, by omega⟩, ⟨by omega, by omega, by omega, by omega⟩, ⟨by omega, by omega, by omega, by omega, by omega⟩⟩
  have TW : Hid (Two w w5.heap.size a b qa qb w5 (.slice none 0 0) (.slice none 0 0) [] []) := Lib.hid ⟨HA4.out.keep hk (fun f => f) (fun _ _ f => f), hB, nofun, nofun, nofun, hk.cell' CA4.out (fun f => f), hk.cell' CB.out (fun f => f), K4.out.trans' hk, Nat.le_refl _⟩
  clear hk hB CA4 HA4 CB K1 K2 K3 K4 hqa2 ha2 hqb2 hb3 hs1 hs2 hs3 hs4 hs5 ha1 hb1 hq1 hq3
  obtain ⟨N0, hN0⟩ : ∃ N0, w5.heap.size = N0 := ⟨_, rfl⟩
  rw [hN0] at ST TW
  clear hN0
  obtain ⟨t1, ht1⟩ : ∃ t1, turn.tmod (n : Int) = t1 := ⟨_, rfl⟩
  obtain ⟨s, HSN⟩ : ∃ s : Nat, Hid (n ≠ 0 → (t1 + n).tmod (n : Int) = s ∧ s < n ∧ -(n : Int) < t1 ∧ t1 < n) := by
    refine ⟨((t1 + n).tmod (n : Int)).toNat, Lib.hid fun hz => ?_⟩
    have htb1 := tmod_bounds turn n (by omega)
    rw [ht1] at htb1
    have h1 := Int.emod_lt_of_pos (t1 + n) (b := n) (by omega)
    have h2 := Int.emod_nonneg (t1 + n) (b := n) (by omega)
    rw [Int.tmod_eq_emod_of_nonneg (by omega)]
    omega
  go_wp2_with fail
  go_loopw [9] (fun iv wr => ∃ (i : Nat) (va vb : Value) (la lb : List (Int × Int)), i ≤ n ∧ iv = .int .i64 i ∧ Two w N0 a b qa qb wr va vb la lb ∧ Rep (keyB false) okB la i (fC X i) ∧ Rep (keyB false) okB lb i (fC (fun j => X ((j + s) % n)) i)) (fun iv _ => n - (intOf iv).toNat)
  case atStart => exact ⟨0, _, _, [], [], Nat.zero_le _, rfl, TW.out, rep_zero _, rep_zero _⟩
  case round =>
    obtain ⟨i, va, vb, la, lb, hi, rfl, hT, hra, hrb⟩ := hrel
    have HT := Lib.hid hT; have HRA := Lib.hid hra; have HRB := Lib.hid hrb
    clear hT hra hrb TW
    by_cases hlt : i < n
    · have hlt2 : (i : Int) < n := by omega
      obtain ⟨hs, hsn, htb1, htb2⟩ := HSN.out (by omega)
      have hn0 : ¬ n = 0 := by omega
      have hil : i < l.length := by omega
      have hil3 : decide (l.length ≤ i) = false := by simp; omega
      obtain ⟨kk, hkk⟩ : ∃ kk, (i + s) % n = kk := ⟨_, rfl⟩
      have hkn : kk < n := by rw [← hkk]; exact Nat.mod_lt _ (by omega)
      have hk3 : ((i : Int) + s).tmod (n : Int) = kk := by
        rw [Int.tmod_eq_emod_of_nonneg (by omega), ← hkk]; norm_cast
      have hkl : kk < l.length := by omega
      have hkl2 : (kk : Int) < l.length := by omega
      have hkl3 : decide (l.length ≤ kk) = false := by simp; omega
      have SLr := Lib.hid (SL.out.keep HT.out.K (fun _ _ f => f))
      obtain ⟨g1, o1, hao, d1⟩ := SLr.out.2.2 i hil
      subst hao
      have hxi := HXV.out i hil
      have hxb := bounds_i64 (HWF.out _ (List.getElem_mem hil))
      generalize l[i] = x1 at d1 hxi hxb
      have HADA := Lib.hid (addA ST.out HT.out HRA.out (by omega) (X i) (HXB.out i) 1 (by omega))
      have hra2 := (HRA.out.add (keyB_C false) (HXB.out i) 1 (by have := fC_nonneg X i (keyB false (X i)); omega)).1
      have HRA2 := Lib.hid (rep_congr hra2 (s' := ((i + 1 : Nat) : Int)) (f' := fC X (i + 1)) (by push_cast; rfl) (fun k => fC_succ X i k))
      have HKK := Lib.hid hkk
      clear hra2 hkk
      go_wp2_with fail
      refine HADA.out.mono ?_
      rintro e w6 ⟨va6, rfl, hT⟩
      have HT6 := Lib.hid hT
      clear hT HADA d1
      obtain ⟨_, _, hao, d2⟩ := (SL.out.keep HT6.out.K (fun _ _ f => f)).2.2 kk hkl
      injection hao with hao
      injection hao with hao1 hao2 _
      subst hao1 hao2
      have hxk := HXV.out kk hkl
      have hxb2 := bounds_i64 (HWF.out _ (List.getElem_mem hkl))
      generalize l[kk] = x2 at d2 hxk hxb2
      have HADB := Lib.hid (addA ST.out.symm HT6.out.symm HRB.out (by omega) (X kk) (HXB.out kk) 1 (by omega))
      have hrb2 := (HRB.out.add (keyB_C false) (HXB.out kk) 1 (by have := fC_nonneg (fun j => X ((j + s) % n)) i (keyB false (X kk)); omega)).1
      have HRB2 := Lib.hid (rep_congr hrb2 (s' := ((i + 1 : Nat) : Int)) (f' := fC (fun j => X ((j + s) % n)) (i + 1)) (by push_cast; rfl) (fun k => by rw [fC_succ]; simp only [HKK.out]))
      have h77 : okB 77 := by unfold okB; omega
      have hrb3 := HRB2.out.add (keyB_C false) h77 1 (by have := fC_nonneg (fun j => X ((j + s) % n)) (i + 1) (keyB false 77); omega)
      have HRB3 := Lib.hid hrb3.1
      have hrb4 := HRB3.out.add (keyB_C false) h77 (-1) (by rw [if_pos rfl]; have := fC_nonneg (fun j => X ((j + s) % n)) (i + 1) (keyB false 77); omega)
      have HRB4 := Lib.hid (rep_congr hrb4.1 (s' := ((i + 1 : Nat) : Int)) (f' := fC (fun j => X ((j + s) % n)) (i + 1)) (by omega) (fun k => by
        show _ = if k = keyB false 77 then (if k = keyB false 77 then _ + 1 else _) + -1 else (if k = keyB false 77 then _ + 1 else _)
        by_cases e : k = keyB false 77
        · rw [if_pos e, if_pos e]; omega
        · rw [if_neg e, if_neg e]))
      clear hrb2 hrb3 hrb4
      go_wp2_with fail
      refine HADB.out.mono ?_
      rintro e w7 ⟨vb7, rfl, hT⟩
      have HT7 := Lib.hid hT
      clear hT HADB d2
      go_wp2_with fail
      refine (addA ST.out.symm HT7.out HRB2.out (by omega) 77 h77 1 (by omega)).mono ?_
      rintro e w8 ⟨vb8, rfl, hT⟩
      have HT8 := Lib.hid hT
      clear hT
      go_wp2_with fail
      refine (addA ST.out.symm HT8.out HRB3.out (by omega) 77 h77 (-1) (by omega)).mono ?_
      rintro e w9 ⟨vb9, rfl, hT⟩
      have HT9 := Lib.hid hT.symm
      clear hT
      go_wp2_with fail
      go_roundw
      case rel => exact ⟨i + 1, va6, vb9, _, _, by omega, by go_num, HT9.out, HRA2.out, HRB4.out⟩
      case measure => simp [intOf]; omega
    · have hlt2 : ¬ (i : Int) < n := by omega
      obtain rfl : i = n := by omega
      have hll : la = lb := bag_uniq (keyB_inj false) la lb HRA.out.sort HRB.out.sort (fun p hp => ⟨HRA.out.ok p hp, HRA.out.pos p hp⟩) (fun p hp => ⟨HRB.out.ok p hp, HRB.out.pos p hp⟩) (fun k => by
        rw [HRA.out.cnt, HRB.out.cnt]
        by_cases hz : i = 0
        · subst hz; rfl
        · rw [fC_perm X i s (HSN.out hz).2.1 k])
      subst hll
      obtain ⟨n, rfl⟩ : ∃ n, n = i := ⟨_, rfl⟩
      obtain ⟨b1, b2⟩ := HRA.out.bounds (by omega)
      have HB1 := Lib.hid b1; have HB2 := Lib.hid b2
      have hsum := HRA.out.sum
      have HSUM := Lib.hid hsum
      clear b1 b2 hsum
      go_wp2_with fail
      go_loopw [10] (fun iv wr => ∃ i : Nat, i ≤ n + 1 ∧ iv = .int .i64 i ∧ Two w N0 a b qa qb wr va vb la la) (fun iv _ => n + 1 - (intOf iv).toNat)
      case atStart => exact ⟨0, Nat.zero_le _, rfl, HT.out⟩
      case round =>
        obtain ⟨i, hi, rfl, hT⟩ := hrel
        clear HT
        have HT := Lib.hid hT
        clear hT
        by_cases hlt : i ≤ n
        · have hlt2 : (i : Int) ≤ n := by omega
          have h1 := atI_any a _ _ va la i wr HT.out.A HB1.out HB2.out (by omega)
          have h2 := fun W hW => atI_any b 47 #[.pointer (some ⟨qb, 0, none⟩)] vb la i W hW HB1.out HB2.out (by omega)
          generalize (atI la i).getD 0 = x at h1 h2
          generalize (atI la i).isSome = y at h1 h2
          have H1 := Lib.hid h1; have H2 := Lib.hid h2
          have hx : (x != x) = false := by simp
          have hy : (y != y) = false := by simp
          clear h1 h2
          go_wp2_with fail
          refine H1.out.mono ?_
          rintro e w6 ⟨rfl, hk⟩
          have HT6 := Lib.hid (HT.out.keepN hk)
          clear hk
          go_wp2_with fail
          refine (H2.out w6 HT6.out.B).mono ?_
          rintro e w7 ⟨rfl, hk⟩
          have HT7 := Lib.hid (HT6.out.keepN hk)
          clear hk
          go_wp2_with fail
          go_roundw
          case rel => exact ⟨i + 1, by omega, by go_num, HT7.out⟩
          case measure => simp [intOf]; omega
        · have hlt2 : ¬ (i : Int) ≤ n := by omega
          have h1 := lenI_any a _ _ va la wr HT.out.A HB1.out HB2.out
          have h2 := lenI_any b _ _ vb la wr HT.out.B HB1.out HB2.out
          rw [HSUM.out] at h1 h2
          have h3 := kindsI_any a _ _ va la wr HT.out.A
          have h4 := kindsI_any b _ _ vb la wr HT.out.B
          generalize la.length = N at h3 h4
          have H1 := Lib.hid h1; have H2 := Lib.hid h2; have H3 := Lib.hid h3; have H4 := Lib.hid h4
          clear h1 h2 h3 h4
          go_wp2_with fail
          refine H1.out.mono ?_
          rintro e w' ⟨rfl, hw⟩
          obtain rfl : wr = w' := hw.symm
          go_wp2_with fail
          refine H2.out.mono ?_
          rintro e w' ⟨rfl, hw⟩
          obtain rfl : wr = w' := hw.symm
          go_wp2_with fail
          refine H3.out.mono ?_
          rintro e w' ⟨rfl, hw⟩
          obtain rfl : wr = w' := hw.symm
          go_wp2_with fail
          refine H4.out.mono ?_
          rintro e w' ⟨rfl, hw⟩
          obtain rfl : wr = w' := hw.symm
          go_wp2_with fail
          go_ret
          exact ⟨rfl, HT.out.K⟩

set_option linter.unusedVariables false
set_option maxRecDepth 100000 in
theorem lifted (os : Os) (started : os.Started) (H : Type) (enc : TypeId × Value → H) :
    ReturnsInHanded {} Try.checked os 3 .any (Rows.bagOrderSpec.pre6 enc Try.prog Try.f3 Rows.bagOrderRow.domain false) (Rows.bagOrderSpec.post enc Try.prog Try.f3 false true false false) := by
  refine returnsInHanded_of_change (C := Try.checked) own started (by kernel_rfl) Try.func3
    (ChangeSpec.witness6 (enc := enc) (C := Try.checked) false ⟨#[], #[.slice none 0 0, .int .i64 0], []⟩ 8 (by kernel_rfl) (by kernel_rfl) (by kernel_rfl) (by kernel_rfl)) ?_
  intro W base args ds gs before hval0 hW hcnd _
  have hval : ∀ (j : Nat) t v, Try.f3.params[j]? = some t → args[j]? = some v → Value.okWide Try.prog W .any base t v := hval0
  have hW' := hW
  obtain ⟨p, q, hA0, hV, rfl, hfz, hnd⟩ := hW
  have hA : DataW.TrodAll enc Try.prog W 0 (fun _ => true) true Try.f3.params.toList args.toList ds p := hA0
  rw [Try.params3] at hA hval
  obtain ⟨v0, vs0, d0, ds0, p0, q0, hargs, rfl, rfl, h0, r0⟩ := trodAll_cons hA
  obtain ⟨v1, vs1, d1, ds1, p1, q1, rfl, rfl, rfl, h1, r1⟩ := trodAll_cons r0
  obtain ⟨rfl, rfl, rfl⟩ := trodAll_nil r1
  obtain rfl : args = #[v0, v1] := by cases args; simp_all
  obtain ⟨rfl, rfl⟩ := trodVars_none hV
  obtain ⟨a0, len0, cap0, rfl⟩ := okWide_slice Try.underlying22 (hval 0 22 v0 rfl rfl)
  have k0 := h0
  have lt0 : ∀ x ∈ p0, x.block < W.heap.size := by obtain ⟨m, hm⟩ := k0; exact DataW.trod_lt m _ _ _ hm
  obtain ⟨z0, w0⟩ : ∃ zs, IsRow .i64 W a0 len0 cap0 zs := by
    obtain ⟨fuel, hf⟩ := h0
    rcases open_ints Try.underlying22 Try.underlying3 (by kernel_rfl) hf with ⟨hcs, _⟩ | ⟨x, l, c, zs, hcs, _, hl, hm, hz, _, hcell, hwz⟩
    · simp [Value.cells] at hcs
      obtain ⟨rfl, rfl, rfl⟩ := hcs
      exact ⟨[], .inl ⟨rfl, rfl, rfl, rfl⟩⟩
    · simp [Value.cells] at hcs
      obtain ⟨rfl, rfl, rfl⟩ := hcs
      exact ⟨zs, .inr ⟨_, rfl, hl, hm, by simpa using hz, hcell, hwz⟩⟩
  obtain ⟨a1, rfl, rfl, rfl, w1⟩ := open_int Try.underlying3 (hval 1 3 v1 rfl rfl) h1
  clear hA0 hval0
  refine (walk W a0 len0 cap0 z0 w0 a1 w1).mono fun e W' ⟨he, hk⟩ => ?_
  subst he
  have bel := Keep.below hk
  exact ⟨_, rfl, _, _, _, [], _, [], hW', trodAll_mk1 (shut_bool Try.underlying4 _), (trodAll_cons_mk (Below.trod laidOut (by kernel_rfl) (of_decide_eq_true (by kernel_rfl)) k0 bel lt0) (trodAll_cons_mk (shut_int Try.underlying3 w1) trodAll_mk0)), rfl, bel.frame _, fun h => by cases h⟩

theorem over : Rows.bagOrderRow.holds Try.pinned (OpenSpec.ofChange Rows.bagOrderSpec) :=
  OpenClaim.holds_of_wide 3 Try.f3 rfl rfl rfl rfl rfl rfl rfl ⟨rfl, rfl, rfl, rfl, rfl⟩ rfl rfl rfl rfl rfl (by kernel_rfl) Try.func3 (by kernel_rfl)
    (of_decide_eq_true (by kernel_rfl)) (by unfold Func.isWrapper; rw [if_neg (of_decide_eq_false (by kernel_rfl))]; exact ⟨rfl, rfl⟩)
    (fun os started H enc _ => lifted os started H enc)

/-- The statement. -/
theorem proved : Rows.BagOrderSaid := over
#print axioms proved
end Go.Proofs.Ytidpfkehmokdfaa.bagOrder
