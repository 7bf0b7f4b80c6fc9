/- BagCounts: the law returns true and changes nothing that was there. No conditions. -/
import Derived.Test.YtidpfkehmokdfaaArgs6
import Derived.Test.YtidpfkehmokdfaaRows
import Derived.WalkKit
import Derived.ProofKit
import Derived.OpenShut
import Derived.ShutString
import Derived.ChangeOld
import Derived.Below
namespace Go.Proofs.Ytidpfkehmokdfaa.bagCounts
open Go Go.ChangeShapes Go.WideShapes Go.ChangeAt Go.RowKit
open Go.ChangeMaps (open_string shut_string)

theorem own : ownKnob Try.prog.godebug = none := by kernel_rfl
theorem laidOut : laidOutB Try.prog = true := by kernel_rfl

open Go.Proofs Go.RowKit Go.Maps Go.Sort Go.Shelf
abbrev ty : ByteArray := ⟨#[121]⟩
theorem cmp_xy : cmpS tx ty = -1 := by kernel_rfl
def lst (n : Int) : List (ByteArray × Int) := if n = 0 then [] else [(tx, n)]
theorem lst_add (n a : Int) (hn : 0 ≤ n) : addWS cmpS (lst n) tx a = lst (max 0 (n + a)) ∧ nowWS cmpS (lst n) tx a = max 0 (n + a) := by
  unfold addWS nowWS lst
  by_cases h0 : n = 0
  · subst h0
    have e : max (0 + (0 + a)) 0 = max 0 (0 + a) := by omega
    by_cases hm : max 0 (0 + a) = 0
    · have hm2 : max a 0 = 0 := by omega
      have hm3 : max 0 a = 0 := by omega
      simp [addS, nowS, hadS, foundS, hm2, hm3]
    · have hm2 : ¬ max a 0 = 0 := by omega
      have hm3 : ¬ max 0 a = 0 := by omega
      have hm4 : max a 0 = max 0 a := by omega
      simp [addS, nowS, hadS, foundS, hm4, hm3]
  · have hm4 : max (n + a) 0 = max 0 (n + a) := by omega
    by_cases hm : max 0 (n + a) = 0
    · simp [addS, nowS, hadS, foundS, cmp_xx, h0, hm4, hm]
    · simp [addS, nowS, hadS, foundS, cmp_xx, h0, hm4, hm]
theorem lst_y (n : Int) : nowWS cmpS (lst n) ty 0 = 0 := by
  unfold nowWS lst
  by_cases h0 : n = 0
  · simp [h0, nowS, hadS, foundS]
  · simp [h0, cmp_xy, nowS, hadS, foundS]
theorem lst_len (n : Int) : (lst n).length ≤ 1 := by unfold lst; split <;> simp
theorem lst_mono (t : ByteArray) (n : Int) : ∀ i j (hi : i < (lst n).length) (hj : j < (lst n).length), i ≤ j → cmpS (lst n)[j].1 t < 0 → cmpS (lst n)[i].1 t < 0 := by
  intro i j hi hj hij h
  have := lst_len n
  obtain rfl : i = j := by omega
  exact h
theorem lst_b (n : Int) (h : 0 ≤ n ∧ n ≤ 1000000) : ∀ p ∈ lst n, 0 ≤ p.2 ∧ p.2 ≤ 1000000 := by
  unfold lst
  split
  · simp
  · simp; omega
theorem lst_sum (n : Int) : sumS (lst n) = n := by
  unfold lst
  split
  · rename_i h; subst h; rfl
  · simp [sumS]
theorem lst_kinds (n : Int) (h : 0 ≤ n) : ((lst n).length : Int) = min n 1 := by
  unfold lst
  split
  · rename_i h; subst h; rfl
  · simp; omega
set_option maxHeartbeats 8000000 in
set_option maxRecDepth 4000 in
theorem walk (w : World) (a0 : Option Addr) (len0 cap0 : Nat) (z0 : List Int) (h0 : IsRow .i64 w a0 len0 cap0 z0) :
    Calls Try.prog 8 #[.slice a0 len0 cap0] w fun e w' => e = .returned (.bool true) ∧ Keep NoF w w' := by
  obtain ⟨l, hl, hwf, sl⟩ := h0.slG
  subst hl
  have c0 := sl.1; have c0m := sl.2.1
  unfold maxLen at c0m
  have SL := Lib.hid sl; have HWF := Lib.hid hwf
  clear h0 sl hwf
  go_enter Try.func8, Try.ntmps8
  go_wp2_with fail
  refine (begun6_any w).mono ?_
  rintro e w1 ⟨rfl, hk⟩
  have K1 := Lib.hid hk
  clear hk
  go_wp2_with fail
  refine (newS_any 31 #[] w1).mono ?_
  rintro e w2 ⟨b, rfl, hB, hk, hb⟩
  have HB2 := Lib.hid hB; have K2 := Lib.hid (K1.out.trans' hk)
  have hs1 := K1.out.size
  have hwb : w.heap.size ≤ b := by omega
  clear hB hk hb hs1
  go_wp2_with fail
  go_loopw [5, 6] (fun nv iv wr => ∃ (i : Nat) (n : Int) (v : Value), i ≤ l.length ∧ i ≤ 30 ∧ iv = .int .i64 i ∧ nv = .int .i64 n ∧ 0 ≤ n ∧ n ≤ 50 * i ∧ BagS wr b 31 #[] v (lst n) ∧ (∀ j, v.ownBlock = some j → w.heap.size ≤ j) ∧ Keep NoF w wr) (fun _ iv _ => l.length - (intOf iv).toNat)
  case atStart => exact ⟨0, 0, _, Nat.zero_le _, by omega, rfl, rfl, by omega, by omega, HB2.out, nofun, K2.out⟩
  case round =>
    obtain ⟨i, n, v, hi, hi30, rfl, rfl, hn0, hn1, hB, hown, hkw⟩ := hrel
    have HB := Lib.hid hB; have OWN := Lib.hid hown; have KW := Lib.hid hkw
    clear hB hown
    have hend : ¬ (i < l.length ∧ i < 30) ∨ (i < l.length ∧ i < 30) := by omega
    rcases hend with hgo | ⟨hlt, hl30⟩
    · have HCY := Lib.hid (countCS_any b v (lst n) ty wr HB.out (Nat.le_trans (lst_len n) (by decide)) (lst_mono ty n) (lst_b n ⟨hn0, by omega⟩))
      have e0 := lst_y n
      clear hkw
      by_cases hlt : i < l.length
      · have hi1 : (i : Int) < l.length := by omega
        have hi2 : ¬ (i : Int) < 30 := by omega
        have hi2d : decide ((i : Int) < 30) = false := by simp; omega
        go_wp2_with fail
        refine HCY.out.mono ?_
        rintro e w5 ⟨v5, rfl, _, hk5, _⟩
        rw [e0]
        have K5 := Lib.hid (KW.out.trans hk5 (fun _ _ f => f) (fun j hj f => f.elim (fun f => by omega) (fun f => by have := OWN.out j f; omega)))
        clear hk5
        go_wp2_with fail
        go_ret
        exact ⟨rfl, K5.out⟩
      · have hi1 : ¬ (i : Int) < l.length := by omega
        go_wp2_with fail
        refine HCY.out.mono ?_
        rintro e w5 ⟨v5, rfl, _, hk5, _⟩
        rw [e0]
        have K5 := Lib.hid (KW.out.trans hk5 (fun _ _ f => f) (fun j hj f => f.elim (fun f => by omega) (fun f => by have := OWN.out j f; omega)))
        clear hk5
        go_wp2_with fail
        go_ret
        exact ⟨rfl, K5.out⟩
    · have hi1 : (i : Int) < l.length := by omega
      have hi2 : (i : Int) < 30 := by omega
      have hi3 : decide (l.length ≤ i) = false := by simp; omega
      obtain ⟨g1, o1, rfl, d1⟩ := (SL.out.keep hkw (fun _ _ f => f)).2.2 i hlt
      have hxb := bounds_i64 (HWF.out _ (List.getElem_mem hlt))
      generalize l[i] = x at d1 hxb
      obtain ⟨a, ha⟩ : ∃ a, x.tmod 50 = a := ⟨_, rfl⟩
      have hab := tmod_bounds x 50 (by omega)
      rw [ha] at hab
      obtain ⟨n2, hn2⟩ : ∃ n2, max 0 (n + a) = n2 := ⟨_, rfl⟩
      have hn2b : 0 ≤ n2 ∧ n2 ≤ 50 * (i + 1) := by omega
      obtain ⟨e1, e2⟩ := lst_add n a hn0
      rw [hn2] at e1 e2
      have HAD := Lib.hid (addCS_any b v (lst n) tx a wr HB.out (Nat.le_trans (lst_len n) (by decide)) (lst_mono tx n) (lst_b n ⟨hn0, by omega⟩) (by omega))
      have E1 := Lib.hid e1; have E2 := Lib.hid e2
      have hne : (n2 != n2) = false := by simp
      clear hkw e1 e2
      go_wp2_with fail
      refine HAD.out.mono ?_
      rintro e w5 ⟨v5, rfl, hB, hk5, hf5⟩
      rw [E1.out] at hB
      rw [E2.out]
      have HB5 := Lib.hid hB
      have OWN5 : Hid (∀ j, v5.ownBlock = some j → w.heap.size ≤ j) := Lib.hid fun j hj => by
        rcases hf5 j hj with f | f
        · exact OWN.out j f
        · have := KW.out.size; omega
      have K5 := Lib.hid (KW.out.trans hk5 (fun _ _ f => f) (fun j hj f => f.elim (fun f => by omega) (fun f => by have := OWN.out j f; omega)))
      clear hB hk5 hf5 HAD
      obtain ⟨f1, f2⟩ := lst_add n2 0 hn2b.1
      rw [Int.add_zero, show max 0 n2 = n2 by omega] at f1 f2
      have F1 := Lib.hid f1; have F2 := Lib.hid f2
      have HCT := Lib.hid (countCS_any b v5 (lst n2) tx w5 HB5.out (Nat.le_trans (lst_len n2) (by decide)) (lst_mono tx n2) (lst_b n2 ⟨hn2b.1, by omega⟩))
      clear f1 f2
      go_wp2_with fail
      refine HCT.out.mono ?_
      rintro e w6 ⟨v6, rfl, hB, hk6, hf6⟩
      rw [F1.out] at hB
      rw [F2.out]
      have HB6 := Lib.hid hB
      have OWN6 : Hid (∀ j, v6.ownBlock = some j → w.heap.size ≤ j) := Lib.hid fun j hj => by
        rcases hf6 j hj with f | f
        · exact OWN5.out j f
        · have := K5.out.size; omega
      have K6 := Lib.hid (K5.out.trans hk6 (fun _ _ f => f) (fun j hj f => f.elim (fun f => by omega) (fun f => by have := OWN5.out j f; omega)))
      have hlen := lenS_any b _ #[] v6 (lst n2) w6 HB6.out (Nat.le_trans (lst_len n2) (by decide)) (lst_b n2 ⟨hn2b.1, by omega⟩)
      have hkin := kindsS_any b _ #[] v6 (lst n2) w6 HB6.out
      rw [lst_sum] at hlen
      rw [lst_kinds n2 hn2b.1] at hkin
      have HLEN := Lib.hid hlen; have HKIN := Lib.hid hkin
      have hne2 : (min n2 1 != min n2 1) = false := by simp
      clear hB hk6 hf6 HCT hlen hkin
      go_wp2_with fail
      refine HLEN.out.mono ?_
      rintro e w' ⟨rfl, hw⟩
      obtain rfl : w6 = w' := hw.symm
      go_wp2_with fail
      refine HKIN.out.mono ?_
      rintro e w' ⟨rfl, hw⟩
      obtain rfl : w6 = w' := hw.symm
      go_wp2_with fail
      go_roundw
      case rel => exact ⟨i + 1, n2, v6, by omega, by omega, by go_num, rfl, hn2b.1, by have := hn2b.2; push_cast; omega, HB6.out, OWN6.out, K6.out⟩
      case measure => simp [intOf]; omega

set_option linter.unusedVariables false
set_option maxRecDepth 100000 in
theorem lifted (os : Os) (started : os.Started) (H : Type) (enc : TypeId × Value → H) :
    ReturnsInHanded {} Try.checked os 8 .any (Rows.bagCountsSpec.pre6 enc Try.prog Try.f8 Rows.bagCountsRow.domain false) (Rows.bagCountsSpec.post enc Try.prog Try.f8 false true false false) := by
  refine returnsInHanded_of_change (C := Try.checked) own started (by kernel_rfl) Try.func8
    (ChangeSpec.witness6 (enc := enc) (C := Try.checked) false ⟨#[], #[.slice none 0 0], []⟩ 8 (by kernel_rfl) (by kernel_rfl) (by kernel_rfl) (by kernel_rfl)) ?_
  intro W base args ds gs before hval0 hW hcnd _
  have hval : ∀ (j : Nat) t v, Try.f8.params[j]? = some t → args[j]? = some v → Value.okWide Try.prog W .any base t v := hval0
  have hW' := hW
  obtain ⟨p, q, hA0, hV, rfl, hfz, hnd⟩ := hW
  have hA : DataW.TrodAll enc Try.prog W 0 (fun _ => true) true Try.f8.params.toList args.toList ds p := hA0
  rw [Try.params8] at hA hval
  obtain ⟨v0, vs0, d0, ds0, p0, q0, hargs, rfl, rfl, h0, r0⟩ := trodAll_cons hA
  obtain ⟨rfl, rfl, rfl⟩ := trodAll_nil r0
  obtain rfl : args = #[v0] := by cases args; simp_all
  obtain ⟨rfl, rfl⟩ := trodVars_none hV
  obtain ⟨a0, len0, cap0, rfl⟩ := okWide_slice Try.underlying22 (hval 0 22 v0 rfl rfl)
  have k0 := h0
  have lt0 : ∀ x ∈ p0, x.block < W.heap.size := by obtain ⟨m, hm⟩ := k0; exact DataW.trod_lt m _ _ _ hm
  obtain ⟨z0, w0⟩ : ∃ zs, IsRow .i64 W a0 len0 cap0 zs := by
    obtain ⟨fuel, hf⟩ := h0
    rcases open_ints Try.underlying22 Try.underlying3 (by kernel_rfl) hf with ⟨hcs, _⟩ | ⟨x, l, c, zs, hcs, _, hl, hm, hz, _, hcell, hwz⟩
    · simp [Value.cells] at hcs
      obtain ⟨rfl, rfl, rfl⟩ := hcs
      exact ⟨[], .inl ⟨rfl, rfl, rfl, rfl⟩⟩
    · simp [Value.cells] at hcs
      obtain ⟨rfl, rfl, rfl⟩ := hcs
      exact ⟨zs, .inr ⟨_, rfl, hl, hm, by simpa using hz, hcell, hwz⟩⟩
  clear hA0 hval0
  refine (walk W a0 len0 cap0 z0 w0).mono fun e W' ⟨he, hk⟩ => ?_
  subst he
  have bel := Keep.below hk
  exact ⟨_, rfl, _, _, _, [], _, [], hW', trodAll_mk1 (shut_bool Try.underlying4 _), (trodAll_cons_mk (Below.trod laidOut (by kernel_rfl) (of_decide_eq_true (by kernel_rfl)) k0 bel lt0) trodAll_mk0), rfl, bel.frame _, fun h => by cases h⟩

theorem over : Rows.bagCountsRow.holds Try.pinned (OpenSpec.ofChange Rows.bagCountsSpec) :=
  OpenClaim.holds_of_wide 8 Try.f8 rfl rfl rfl rfl rfl rfl rfl ⟨rfl, rfl, rfl, rfl, rfl⟩ rfl rfl rfl rfl rfl (by kernel_rfl) Try.func8 (by kernel_rfl)
    (of_decide_eq_true (by kernel_rfl)) (by unfold Func.isWrapper; rw [if_neg (of_decide_eq_false (by kernel_rfl))]; exact ⟨rfl, rfl⟩)
    (fun os started H enc _ => lifted os started H enc)

/-- The statement. -/
theorem proved : Rows.BagCountsSaid := over
#print axioms proved
end Go.Proofs.Ytidpfkehmokdfaa.bagCounts
