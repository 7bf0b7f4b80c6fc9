/- BagAll: the law returns true and changes nothing that was there. No conditions. -/
import Derived.Test.YtidpfkehmokdfaaBagAll0
import Derived.Deep.CutRange
import Derived.Deep.CutBlock
import Derived.Test.YtidpfkehmokdfaaRows
import Derived.WalkKit
import Derived.ProofKit
import Derived.OpenShut
import Derived.ShutString
import Derived.ChangeOld
import Derived.Below
namespace Go.Proofs.Ytidpfkehmokdfaa.bagAll
open Go Go.ChangeShapes Go.WideShapes Go.ChangeAt Go.RowKit
open Go.ChangeMaps (open_string shut_string)

theorem own : ownKnob Try.prog.godebug = none := by kernel_rfl
theorem laidOut : laidOutB Try.prog = true := by kernel_rfl

open Go.Proofs Go.RowKit Go.Maps Go.Sort Go.Shelf
set_option maxRecDepth 40000 in
theorem open_arg1 {H : Type} {enc : TypeId × Value → H} {a : Option Addr} {len cap : Nat} {d : DataW H} {p : List MemPlace} (W : World) (_base : Nat)
    (h : DataW.Trod enc Try.prog W 0 (fun _ => true) true 32 (.slice a len cap) d p) : ∃ z, IsOps3 W a len cap z := open_ops3 h
/-- The bag at b, ordered by the law's own function at q, and the law's own row. -/
structure Sb (w wr : World) (b q : Nat) (back : Bool) (l : List (Int × Int)) (L : List Int) (va vl : Value) : Prop where
  bag : BagI wr b 47 #[.pointer (some ⟨q, 0, none⟩)] va l
  row : RowP 3 w.heap.size wr vl L
  so : SortK (keyB back) l
  ok : ∀ p ∈ l, okB p.1
  pos : ∀ p ∈ l, 1 ≤ p.2
  fn : wr.cell? ⟨q, 0, none⟩ = some (.bool back)
  kp : Keep NoF w wr
  lo : w.heap.size ≤ b ∧ w.heap.size ≤ q ∧ b ≠ q
  sa : ∀ g, va.ownBlock = some g → w.heap.size ≤ g ∧ g ≠ q
  sl : ∀ g, vl.ownBlock = some g → g ≠ b ∧ g ≠ q ∧ va.ownBlock ≠ some g
theorem Sb.keep {w wr wc : World} {b q : Nat} {back : Bool} {l : List (Int × Int)} {L : List Int} {va vl : Value} (h : Sb w wr b q back l L va vl) (hk : Keep NoF wr wc) : Sb w wc b q back l L va vl :=
  ⟨h.bag.keep hk (fun f => f) (fun _ _ f => f), h.row.keep hk (fun _ _ f => f), h.so, h.ok, h.pos, hk.cell' h.fn (fun f => f), h.kp.trans' hk, h.lo, h.sa, h.sl⟩
theorem Sb.setL {w wr wc : World} {b q : Nat} {back : Bool} {l : List (Int × Int)} {L L' : List Int} {va vl vl' : Value} (h : Sb w wr b q back l L va vl) (hk : Keep NoF wr wc) (hr : RowP 3 wr.heap.size wc vl' L') : Sb w wc b q back l L' va vl' := by
  have h1 := lt_of_heap h.bag.row
  have h2 := World.block_lt_of_cell? wr _ h.fn
  have h3 := row_lt h.bag.own
  exact ⟨h.bag.keep hk (fun f => f) (fun _ _ f => f), hr.less h.kp.size, h.so, h.ok, h.pos, hk.cell' h.fn (fun f => f), h.kp.trans' hk, h.lo, h.sa, fun g hg => ⟨fun e => by have := hr.lo g hg; omega, fun e => by have := hr.lo g hg; have h4 : q < wr.heap.size := h2; omega, fun e => by have := hr.lo g hg; have := h3 g e; omega⟩⟩
theorem Sb.bounds {w wr : World} {b q : Nat} {back : Bool} {l : List (Int × Int)} {L : List Int} {va vl : Value} (h : Sb w wr b q back l L va vl) (hl : (expI l).length ≤ 1000000) : l.length ≤ 1000000 ∧ ∀ p ∈ l, 0 ≤ p.2 ∧ p.2 ≤ 1000000 := by
  have h1 := expI_len l h.pos
  obtain ⟨h2, h3⟩ := sum_mem l h.pos
  exact ⟨by omega, fun p hp => by have := h2 p hp; have := h.pos p hp; omega⟩
theorem sb_add {w wr : World} {b q : Nat} {back : Bool} {l : List (Int × Int)} {L : List Int} {va vl : Value} (h : Sb w wr b q back l L va vl) (hl : (expI l).length ≤ 1000000) (t : Int) (ht : okB t) (n : Int) (hn : -1000 ≤ n ∧ n ≤ 1000) :
    Calls Try.prog 15 #[.pointer (some ⟨b, 0, none⟩), .int .i64 t, .int .i64 n] wr fun e w' => ∃ va', e = .returned (.int .i64 (nowWI (cmpB back) l t n)) ∧ Sb w w' b q back (addWI (cmpB back) l t n) L va' vl := by
  obtain ⟨b1, b2⟩ := h.bounds hl
  refine (addC_any (cmpB back) (keyB back) okB (keyB_C back) 47 #[.pointer (some ⟨q, 0, none⟩)] enterB b va l t n wr h.bag (lawB back q t wr h.fn) h.so h.ok ht b1 b2 (by omega)).mono ?_
  rintro e w' ⟨v', rfl, hB, hk, hf⟩
  obtain ⟨h1, h2, h3, h4, h5, h6⟩ := add_all (keyB_C back) h.so h.ok ht n
  have hs := h.kp.size
  refine ⟨v', rfl, hB, h.row.keep hk (fun g hg e => e.elim (fun e => (h.sl g hg).1 e) (fun e => (h.sl g hg).2.2 e)), h1, h2, fun p hp => (h6 p hp).elim (h.pos p) (fun e => e.2), hk.cell' h.fn (fun e => e.elim (fun e => h.lo.2.2 e.symm) (fun e => (h.sa _ e).2 rfl)), h.kp.trans hk (fun _ _ f => f) (fun k hk e => e.elim (fun e => by have := h.lo; omega) (fun e => by have := (h.sa k e).1; omega)), h.lo, fun g hg => ?_, fun g hg => ⟨(h.sl g hg).1, (h.sl g hg).2.1, fun e => ?_⟩⟩
  · rcases hf g hg with e | e
    · exact h.sa g e
    · have h7 : q < wr.heap.size := World.block_lt_of_cell? wr _ h.fn
      exact ⟨by omega, by omega⟩
  · rcases hf g e with e | e
    · exact (h.sl g hg).2.2 e
    · have := h.row.lt g hg; omega
theorem sb_count {w wr : World} {b q : Nat} {back : Bool} {l : List (Int × Int)} {L : List Int} {va vl : Value} (h : Sb w wr b q back l L va vl) (hl : (expI l).length ≤ 1000000) (t : Int) (ht : okB t) :
    Calls Try.prog 36 #[.pointer (some ⟨b, 0, none⟩), .int .i64 t] wr fun e w' => ∃ va', e = .returned (.int .i64 (nowWI (cmpB back) l t 0)) ∧ Sb w w' b q back l L va' vl := by
  have H := Lib.hid (sb_add h hl t ht 0 (by omega))
  have HE := Lib.hid (add_none (keyB_C back) h.so h.ok h.pos ht)
  clear h hl
  go_enter Try.func36, Try.ntmps36
  go_wp2_with fail
  refine H.out.mono ?_
  rintro e w' ⟨va', rfl, h1⟩
  rw [HE.out] at h1
  have H1 := Lib.hid h1
  clear h1
  go_wp2_with fail
  go_ret
  exact ⟨va', rfl, H1.out⟩
theorem sb_len {w wr : World} {b q : Nat} {back : Bool} {l : List (Int × Int)} {L : List Int} {va vl : Value} (h : Sb w wr b q back l L va vl) {n : Nat} (hn : (expI l).length = n) (hl : n ≤ 1000000) :
    Calls Try.prog 17 #[.pointer (some ⟨b, 0, none⟩)] wr fun e w' => e = .returned (.int .i64 n) ∧ w' = wr := by
  obtain ⟨b1, b2⟩ := h.bounds (by omega)
  refine (lenI_any b 47 #[.pointer (some ⟨q, 0, none⟩)] va l wr h.bag b1 b2).mono ?_
  rintro e w' ⟨rfl, rfl⟩
  rw [← expI_len l h.pos, hn]; exact ⟨rfl, rfl⟩
theorem sb_at {w wr : World} {b q : Nat} {back : Bool} {l : List (Int × Int)} {L : List Int} {va vl : Value} (h : Sb w wr b q back l L va vl) (hl : (expI l).length ≤ 1000000) (i : Int) (hi : -9223372036854775808 ≤ i ∧ i ≤ 9223372036854775807) :
    Calls Try.prog 16 #[.pointer (some ⟨b, 0, none⟩), .int .i64 i] wr fun e w' => e = .returned (.tuple #[.int .i64 ((atI l i).getD 0), .bool (atI l i).isSome]) ∧ Keep NoF wr w' := by
  obtain ⟨b1, b2⟩ := h.bounds hl
  exact atI_any b 47 #[.pointer (some ⟨q, 0, none⟩)] va l i wr h.bag b1 b2 hi
theorem sb_each {w wr : World} {b q : Nat} {back : Bool} {l : List (Int × Int)} {L : List Int} {va vl : Value} (h : Sb w wr b q back l L va vl) (hl : (expI l).length ≤ 1000000) :
    Calls Try.prog 37 #[.pointer (some ⟨b, 0, none⟩)] wr fun e w' => ∃ v, e = .returned v ∧ RowP 3 wr.heap.size w' v (dd none (expI l)) ∧ Keep NoF wr w' := by
  obtain ⟨b1, b2⟩ := h.bounds hl
  refine (eachI_any b 47 #[.pointer (some ⟨q, 0, none⟩)] va l wr h.bag b1).mono ?_
  rintro e w' ⟨ao, cp, rfl, h1, h2, h3⟩
  have hd : dd none (expI l) = fstI l := dd_exp l none h.so h.pos (fun _ _ e => by cases e)
  have hlen : (fstI l).length = l.length := by simp [fstI]
  rw [hd]
  exact ⟨_, rfl, ⟨ao, cp, by rw [hlen], by rw [flat1, hlen]; exact h1, h2⟩, h3⟩
theorem sb_kinds {w wr : World} {b q : Nat} {back : Bool} {l : List (Int × Int)} {L : List Int} {va vl : Value} (h : Sb w wr b q back l L va vl) {n : Nat} (hn : (dd none (expI l)).length = n) :
    Calls Try.prog 18 #[.pointer (some ⟨b, 0, none⟩)] wr fun e w' => e = .returned (.int .i64 n) ∧ w' = wr := by
  have hd : dd none (expI l) = fstI l := dd_exp l none h.so h.pos (fun _ _ e => by cases e)
  refine (kindsI_any b 47 #[.pointer (some ⟨q, 0, none⟩)] va l wr h.bag).mono ?_
  rintro e w' ⟨rfl, rfl⟩
  rw [hd] at hn
  have : l.length = n := by rw [← hn]; simp [fstI]
  rw [this]; exact ⟨rfl, rfl⟩
theorem sb_fn {w wr : World} {b q : Nat} {back : Bool} {l : List (Int × Int)} {L : List Int} {va vl : Value} (h : Sb w wr b q back l L va vl) (x y : Int) :
    Calls Try.prog 47 #[.int .i64 x, .int .i64 y, .pointer (some ⟨q, 0, none⟩)] wr fun e w' => e = .returned (.int .i64 (cmpB back x y)) ∧ w' = wr := by1_any back q x y wr h.fn
/-- Behind a step. -/
def Nb (w : World) (b q i : Nat) (back : Bool) (wr : World) (vl : Value) : Prop := ∃ l va, (expI l).length ≤ 19 * i ∧ Sb w wr b q back l (expI l) va vl
theorem wp_named {P : Program} {c : Code} {Q : Exit → Act → World → Prop} {a : Act} {wq W : World} (hW : Keep NoF wq W) (h : ∀ W', Keep NoF wq W' → Code.wp P c Q a W') : Code.wp P c Q a W := h W hW
set_option maxHeartbeats 16000000 in
set_option maxRecDepth 8000 in
theorem walk (w : World) (back : Bool) (a1 : Option Addr) (len1 cap1 : Nat) (z1 : List Op3) (h1 : IsOps3 w a1 len1 cap1 z1) :
    Calls Try.prog 9 #[.bool back, .slice a1 len1 cap1] w fun e w' => e = .returned (.bool true) ∧ Keep NoF w w' := by
  obtain ⟨hl1, hok, s1⟩ := h1
  have c1 := s1.1; have c1m := s1.2.1
  rw [hl1] at c1
  unfold maxLen at c1m
  have S1 := Lib.hid s1; have HL1 := Lib.hid hl1; have HOK := Lib.hid hok
  clear s1 hl1 hok
  go_enter Try.func9, Try.ntmps9
  go_wp2_with fail
  refine (begun6_any w).mono ?_
  rintro e w1 ⟨rfl, hk⟩
  have K1 := Lib.hid hk; clear hk
  go_wp2_with fail
  refine (by_any back w1).mono ?_
  rintro e w2 ⟨q, rfl, hq, hk, hq1⟩
  have K2 := Lib.hid (K1.out.trans' hk); have CA := Lib.hid hq
  have hq2 : q < w2.heap.size := World.block_lt_of_cell? w2 _ hq
  have hs1 := K1.out.size
  have hs2 := hk.size
  clear hk hq
  go_wp2_with fail
  refine (newI_any 47 #[.pointer (some ⟨q, 0, none⟩)] w2).mono ?_
  rintro e w3 ⟨b, rfl, hA, hk, ha1⟩
  have HS0 : Hid (Sb w w3 b q back [] [] (.slice none 0 0) (.slice none 0 0)) := Lib.hid ⟨hA, RowP.nil, List.Pairwise.nil, by simp, by simp, hk.cell' CA.out (fun f => f), K2.out.trans' hk, ⟨by omega, by omega, by omega⟩, nofun, nofun⟩
  clear hA hk ha1 hq1 hq2 hs1 hs2
  go_wp2_with fail
  go_loopw [8, 9] (fun vl iv wr => ∃ i : Nat, i ≤ len1 ∧ i ≤ 40 ∧ iv = .int .i64 i ∧ Nb w b q i back wr vl) (fun _ iv _ => len1 - (intOf iv).toNat)
  case atStart => exact ⟨0, Nat.zero_le _, Nat.zero_le _, rfl, [], _, Nat.le_refl _, HS0.out⟩
  case round =>
    obtain ⟨i, hi, hi40, rfl, l, va, hKi, hS⟩ := hrel
    have HS := Lib.hid hS
    obtain ⟨L, hL⟩ : ∃ L, expI l = L := ⟨_, rfl⟩
    have HL := Lib.hid hL
    obtain ⟨n, hn⟩ : ∃ n, L.length = n := ⟨_, rfl⟩
    rw [hL] at HS hKi
    rw [hn] at hKi
    obtain ⟨ao, cp, rfl, hcp, hcpm, hrk⟩ := HS.out.row.slice hn
    have HN := Lib.hid hn; have HRK := Lib.hid hrk
    clear hS hn hrk hL
    by_cases hlt : i < len1 ∧ i < 40
    · obtain ⟨hlt, hlt40⟩ := hlt
      have hlt2 : (i : Int) < len1 := by omega
      have hlt3 : (i : Int) < 40 := by omega
      have hd2 : decide ((i : Int) < len1) = true := by simp [hlt2]
      have hd3 : decide ((i : Int) < 40) = true := by simp [hlt3]
      have hil3 : decide (len1 ≤ i) = false := by simp; omega
      obtain ⟨g0, o0, rfl, b0, b1, b2⟩ := sl3 (S1.out.keep HS.out.kp (fun _ _ f => f)) i (by rw [HL1.out]; exact hlt)
      have hok := HOK.out _ (List.getElem_mem (by rw [HL1.out]; exact hlt : i < z1.length))
      generalize z1[i]'(by rw [HL1.out]; exact hlt) = O at b0 b1 b2 hok
      obtain ⟨kd, X, N⟩ := O
      dsimp only at b0 b1 b2
      obtain ⟨_, bX, bN⟩ := hok
      dsimp only at bX bN
      obtain ⟨x, hx⟩ : ∃ x, X.tmod 100 = x := ⟨_, rfl⟩
      obtain ⟨nn, hnn⟩ : ∃ nn, N.tmod 20 = nn := ⟨_, rfl⟩
      have hxb : -99 ≤ x ∧ x ≤ 99 := by have := tmod_bounds X 100 (by omega); omega
      have hnb : -19 ≤ nn ∧ nn ≤ 19 := by have := tmod_bounds N 20 (by omega); omega
      obtain ⟨hxl, hxu⟩ := hxb
      obtain ⟨hnl, hnu⟩ := hnb
      have HOKX : Hid (okB x) := Lib.hid (by unfold okB; omega)
      go_upto_region 10 with fail
      go_quiet (fail)
      go_wp2_with fail
      clear b0 b1 b2 hd2 hd3 hil3 hx hnn bX bN
      refine wp_named (wq := wr) (by first | exact (Keep.refl NoF wr).drewN _ | exact (Keep.refl NoF wr).drew) ?_
      intro W1 hk1
      have HS1 := Lib.hid (HS.out.keep hk1)
      have HRK1 : Hid (W1.ownsRow 0 3 1 (.slice ao n cp) n (L.flatMap iC)) := Lib.hid (row_keep HRK.out hk1 (fun _ _ f => f))
      clear hk1 HS HRK
      have HFN := Lib.hid (fun y => sb_fn HS1.out y x)
      have hn800 : n ≤ 760 := by omega
      go_wp2_with fail
      go_loopw [12] (fun kv wq => ∃ k : Nat, k ≤ n ∧ kv = .int .i64 k ∧ (∀ y ∈ L.take k, cmpB back y x < 0) ∧ W1 = wq) (fun kv _ => n - (intOf kv).toNat)
      case atStart => exact ⟨0, Nat.zero_le _, rfl, by simp, rfl⟩
      case round =>
        obtain ⟨k, hkn, rfl, htk, rfl⟩ := hrel
        have HTK := Lib.hid htk
        clear htk
        go_upto_region 12 with fail
        go_cut [68] from 55 to 68 (fun v wx => v = .bool (cP (cmpB back) L x k) ∧ W1 = wx)
        case first =>
          by_cases hlt : k < n
          · have hlt2 : (k : Int) < n := by omega
            have hil3 : decide (n ≤ k) = false := by simp; omega
            have hkL : k < L.length := by rw [HN.out]; exact hlt
            obtain ⟨g1, rfl, d1⟩ := row_at HRK1.out HN.out k hkL
            have hcl := cP_in (c := cmpB back) (x := x) hkL
            generalize L[k] = y at d1 hcl
            have hfn := HFN.out y
            obtain ⟨cv, hcv⟩ : ∃ cv, cmpB back y x = cv := ⟨_, rfl⟩
            rw [hcv] at hfn hcl
            have HFN2 := Lib.hid hfn
            have HCL := Lib.hid hcl
            clear hfn hcv hcl hkL
            by_cases hc : cv < 0
            · have hcd : decide (cv < 0) = true := decide_eq_true hc
              have HCD := Lib.hid hcd
              go_wp2_with fail
              refine HFN2.out.mono ?_
              rintro e w' ⟨rfl, hw⟩
              obtain rfl : W1 = w' := hw.symm
              go_wp2_with fail
              go_meet
              exact ⟨by rw [HCL.out, HCD.out], rfl⟩
            · have hcd : decide (cv < 0) = false := decide_eq_false hc
              have HCD := Lib.hid hcd
              go_wp2_with fail
              refine HFN2.out.mono ?_
              rintro e w' ⟨rfl, hw⟩
              obtain rfl : W1 = w' := hw.symm
              go_wp2_with fail
              go_meet
              exact ⟨by rw [HCL.out, HCD.out], rfl⟩
          · have hlt2 : ¬ (k : Int) < n := by omega
            have hlt3 : decide (k < n) = false := by simp [hlt]
            have HCL : Hid (cP (cmpB back) L x k = false) := Lib.hid (cP_out (by rw [HN.out]; omega))
            go_wp2_with fail
            go_meet
            exact ⟨by rw [HCL.out], rfl⟩
        case rest =>
          obtain ⟨rfl, rfl⟩ := hcut
          obtain ⟨bl, hbl⟩ : ∃ b, cP (cmpB back) L x k = b := ⟨_, rfl⟩
          rw [hbl]
          cases bl with
          | true =>
            have hk1 := cP_lt hbl
            rw [HN.out] at hk1
            have HTK2 := Lib.hid (cP_step HTK.out hbl)
            clear hbl
            go_wp2_with fail
            go_roundw
            case rel => exact ⟨k + 1, by omega, by go_num, HTK2.out, trivial⟩
            case measure => simp [intOf]; omega
          | false =>
            have HBL := Lib.hid hbl
            clear hbl
            go_wp2_with fail
            go_loopw [13] (fun sv wq => ∃ s : Nat, k + s ≤ n ∧ sv = .int .i64 s ∧ (L.drop k).take s = List.replicate s x ∧ W1 = wq) (fun sv _ => n - (intOf sv).toNat)
            case atStart => exact ⟨0, by omega, rfl, by simp, rfl⟩
            case round =>
              obtain ⟨s, hks, rfl, hrp, rfl⟩ := hrel
              have HRP := Lib.hid hrp
              obtain ⟨j, hj⟩ : ∃ j, k + s = j := ⟨_, rfl⟩
              have HJ := Lib.hid hj
              rw [hj] at hks
              have hjI : (k : Int) + (s : Int) = (j : Int) := by omega
              have hs760 : s ≤ 760 := by omega
              have hjW : IntKind.i64.wrap ((k : Int) + (s : Int)) = (j : Int) := by rw [hjI]; exact IntWalk.i64_in _ (by omega)
              have HJI := Lib.hid hjI; have HJW := Lib.hid hjW
              clear hrp hj
              go_upto_region 15 with fail
              go_cut [86] from 71 to 86 (fun v wx => v = .bool (eP L x j) ∧ W1 = wx)
              case first =>
                by_cases hlt : j < n
                · have hlt2 : (j : Int) < n := by omega
                  have hil3 : decide (n ≤ j) = false := by simp; omega
                  have hjL : j < L.length := by rw [HN.out]; exact hlt
                  obtain ⟨g1, rfl, d1⟩ := row_at HRK1.out HN.out j hjL
                  have hcl := eP_in (x := x) hjL
                  generalize L[j] = y at d1 hcl
                  by_cases hyx : y = x
                  · have HCL : Hid (eP L x j = true) := Lib.hid (by rw [hcl]; exact decide_eq_true hyx)
                    subst hyx
                    clear hcl hjL
                    go_wp2_with fail
                    go_meet
                    exact ⟨by rw [HCL.out], rfl⟩
                  · have HCL : Hid (eP L x j = false) := Lib.hid (by rw [hcl]; exact decide_eq_false hyx)
                    have hne : (y == x) = false := by simp [hyx]
                    clear hcl hjL
                    go_wp2_with fail
                    go_meet
                    exact ⟨by rw [HCL.out], rfl⟩
                · have hlt2 : ¬ (j : Int) < n := by omega
                  have hlt3 : decide (j < n) = false := by simp [hlt]
                  have HCL : Hid (eP L x j = false) := Lib.hid (eP_out (by rw [HN.out]; omega))
                  go_wp2_with fail
                  go_meet
                  exact ⟨by rw [HCL.out], rfl⟩
              case rest =>
                obtain ⟨rfl, rfl⟩ := hcut
                clear hjI hjW
                obtain ⟨bl, hbl⟩ : ∃ b, eP L x j = b := ⟨_, rfl⟩
                rw [hbl]
                cases bl with
                | true =>
                  have hj1 := eP_lt hbl
                  rw [HN.out] at hj1
                  rw [← HJ.out] at hbl
                  have HRP2 := Lib.hid (eP_step HRP.out hbl)
                  have hj2 : k + (s + 1) ≤ n := by have := HJ.out; omega
                  clear hbl
                  go_wp2_with fail
                  go_roundw
                  case rel => exact ⟨s + 1, hj2, by go_num, HRP2.out, trivial⟩
                  case measure => simp [intOf]; have := HJ.out; omega
                | false =>
                  rw [← HJ.out] at hbl
                  have hadd := add_exp (keyB_C back) (keyB_inj back) HS1.out.so HS1.out.ok HS1.out.pos HOKX.out nn (k := k) (s := s) (by rw [HL.out, HN.out]; exact hkn) (by rw [HL.out]; exact HTK.out) (by rw [HL.out]; exact HBL.out) (by rw [HL.out]; exact HRP.out) (by rw [HL.out]; exact hbl)
                  rw [HL.out, HJ.out] at hadd
                  obtain ⟨M, hM⟩ : ∃ M : Nat, max 0 ((s : Int) + nn) = M := ⟨(max 0 ((s : Int) + nn)).toNat, by omega⟩
                  have hMs : M ≤ s + 19 := by omega
                  rw [hM, Int.toNat_natCast] at hadd
                  have HADD := Lib.hid hadd
                  have HM := Lib.hid hM
                  have hkj : k ≤ j := by have := HJ.out; omega
                  have hsj : k + s = j := HJ.out
                  clear hadd hbl
                  have hhi := fun W => run_upto (P := Try.prog) Try.underlying22 infoA ao n cp k (by omega) W
                  go_upto_region 19 with fail
                  clear hM hsj
                  have SRC1 : Hid (Src Try.prog 1 22 (.slice ao k cp) k ((L.take k).flatMap iC) W1) := Lib.hid (src_upto iC_len iC_one Try.underlying22 HRK1.out HN.out k hkn cp)
                  go_wp2_with (at_builtin; refine wpList_app 22 22 3 (.int .i64 0) 1 8 Try.underlying22 infoA rfl (by decide) (by decide) rfl rfl rfl (sv := .slice ao k cp) rfl (World.ownsRow_nil _ _ _ _) SRC1.out (by omega) ?_)
                  intro am cm W2 hown hgr hfr
                  have hk2 : Keep NoF W1 W2 := (Keep.refl NoF W1).grown hgr (fun k _ e => by cases e)
                  have hr2 : RowP 3 W1.heap.size W2 (.slice am k cm) (L.take k ++ List.replicate 0 x) := by
                    refine ⟨am, cm, by simp [HN.out, Nat.min_eq_left hkn], by simpa [HN.out, Nat.min_eq_left hkn] using hown, fun g hg => ?_⟩
                    rcases hfr with f | f
                    · rw [f] at hg; cases hg
                    · rw [f] at hg; injection hg with hg; omega
                  have HR2 := Lib.hid hr2; have HK2 := Lib.hid hk2
                  clear hown hgr hfr hk2 hr2 hhi
                  go_wp2_with fail
                  go_loopw [15, 16] (fun mv jv wr => ∃ i2 : Nat, i2 ≤ M ∧ jv = .int .i64 i2 ∧ RowP 3 W1.heap.size wr mv (L.take k ++ List.replicate i2 x) ∧ Keep NoF W1 wr) (fun _ jv _ => M - (intOf jv).toNat)
                  case atStart => exact ⟨0, Nat.zero_le _, rfl, HR2.out, HK2.out⟩
                  case round =>
                    obtain ⟨i2, hi2, rfl, hr, hk⟩ := hrel
                    have hlen : (L.take k ++ List.replicate i2 x).length = k + i2 := by rw [List.length_append, List.length_replicate, List.length_take, HN.out, Nat.min_eq_left hkn]
                    obtain ⟨am2, cm2, rfl, hcm2, hcmm2, hrow⟩ := hr.slice hlen
                    have HR := Lib.hid hr; have HK := Lib.hid hk; have HROW := Lib.hid hrow
                    clear hr hk hrow hlen
                    by_cases hlt : i2 < M
                    · have hlt2 : (i2 : Int) < M := by omega
                      go_wp2_with (at_builtin; refine wpList_app 22 22 3 (.int .i64 0) 1 8 Try.underlying22 infoA rfl (by decide) (by decide) rfl rfl rfl rfl (HROW.out.alloc _) (src_oneK (x := x) iC_one iC_len Try.underlying22 (heap_new _ _) rfl 1) (by omega) ?_)
                      intro am3 cm3 W3 hown hgr hfr
                      have hk3 : Keep NoF W1 W3 := (HK.out.alloc _).grown hgr (fun k _ e => by have := HR.out.lo k e; omega)
                      have hr3 : RowP 3 W1.heap.size W3 (.slice am3 (k + i2 + 1) cm3) (L.take k ++ List.replicate (i2 + 1) x) := by
                        have hlen : (L.take k ++ List.replicate (i2 + 1) x).length = k + i2 + 1 := by rw [List.length_append, List.length_replicate, List.length_take, HN.out, Nat.min_eq_left hkn]; omega
                        refine ⟨am3, cm3, by rw [hlen], ?_, fun g hg => ?_⟩
                        · rw [hlen, List.replicate_succ', ← List.append_assoc, List.flatMap_append]
                          simpa [iC] using hown
                        · rcases hfr with f | f
                          · rw [f] at hg; exact HR.out.lo g hg
                          · rw [f] at hg; injection hg with hg; have := HK.out.size; omega
                      have HR3 := Lib.hid hr3; have HK3 := Lib.hid hk3
                      clear hown hgr hfr hk3 hr3
                      go_wp2_with fail
                      go_roundw
                      case rel => exact ⟨i2 + 1, by omega, by go_num, HR3.out, HK3.out⟩
                      case measure => simp [intOf]; omega
                    · have hlt2 : ¬ (i2 : Int) < M := by omega
                      obtain rfl : i2 = M := by omega
                      obtain ⟨W3, rfl⟩ : ∃ W, W = wr := ⟨_, rfl⟩
                      have hjI := HJI.out
                      have hjW := HJW.out
                      have hhi := fun W => run_from (P := Try.prog) Try.underlying22 infoA ao n cp j (by omega) W
                      have SRC2 : Hid (Src Try.prog 1 22 (.slice (fromA ao j cp 1) (n - j) (cp - j)) (n - j) ((L.drop j).flatMap iC) W3) := Lib.hid (src_from iC_len iC_one Try.underlying22 (row_keep HRK1.out HK.out (fun _ _ f => f)) HN.out j hks (cp - j))
                      go_wp2_with (at_builtin; refine wpList_app 22 22 3 (.int .i64 0) 1 8 Try.underlying22 infoA rfl (by decide) (by decide) rfl rfl rfl (sv := .slice (fromA ao j cp 1) (n - j) (cp - j)) rfl HROW.out SRC2.out (by omega) ?_)
                      intro al4 cl4 W4 hown hgr hfr
                      obtain ⟨n4, hn4⟩ : ∃ n4, k + i2 + (n - j) = n4 := ⟨_, rfl⟩
                      rw [hn4] at hown hfr ⊢
                      have hk4 : Keep NoF W1 W4 := HK.out.grown hgr (fun k _ e => by have := HR.out.lo k e; omega)
                      have hl4 : (expI (addWI (cmpB back) l x nn)).length = n4 := by
                        rw [HADD.out.2, List.length_append, List.length_append, List.length_replicate, List.length_take, List.length_drop, HN.out, Nat.min_eq_left hkn]; omega
                      have hr4 : RowP 3 W1.heap.size W4 (.slice al4 n4 cl4) (expI (addWI (cmpB back) l x nn)) := by
                        refine ⟨al4, cl4, by rw [hl4], ?_, fun g hg => ?_⟩
                        · rw [hl4, HADD.out.2, List.flatMap_append, List.flatMap_append]; exact hown
                        · rcases hfr with f | f
                          · rw [f] at hg; exact HR.out.lo g hg
                          · rw [f] at hg; injection hg with hg; have := HK.out.size; omega
                      have HL4 := Lib.hid hl4
                      have hn4b : n4 ≤ 19 * (i + 1) := by omega
                      have HS4 := Lib.hid (HS1.out.setL hk4 hr4)
                      clear hown hgr hfr hk4 hr4 hl4 hhi hjI hjW hn4
                      have hne : ((i2 : Int) != i2) = false := by simp
                      have hne2 : ((n4 : Int) != n4) = false := by simp
                      have HADD2 := Lib.hid (now_again (keyB_C back) HS4.out.so HS4.out.ok HOKX.out nn)
                      go_wp2_with fail
                      refine (sb_add HS4.out (by rw [HL.out, HN.out]; omega) x HOKX.out nn (by omega)).mono ?_
                      rintro e w5 ⟨va5, rfl, hS5⟩
                      have HS5 := Lib.hid hS5
                      clear hS5
                      rw [HADD.out.1]
                      go_wp2_with fail
                      refine (sb_count HS5.out (by rw [HL4.out]; omega) x HOKX.out).mono ?_
                      rintro e w6 ⟨va6, rfl, hS6⟩
                      have HS6 := Lib.hid hS6
                      clear hS6
                      rw [HADD2.out, HADD.out.1]
                      go_wp2_with fail
                      refine (sb_len HS6.out HL4.out (by omega)).mono ?_
                      rintro e w' ⟨rfl, hw⟩
                      obtain rfl : w6 = w' := hw.symm
                      go_wp2_with fail
                      go_roundw
                      case rel => exact ⟨i + 1, by omega, by omega, by go_num, _, _, by rw [HL4.out]; exact hn4b, HS6.out⟩
                      case measure => simp [intOf]; omega
    · obtain ⟨wq, rfl⟩ : ∃ W, W = wr := ⟨_, rfl⟩
      have hcase : (decide (i < len1) = false) ∨ (decide ((i : Int) < len1) = true ∧ decide ((i : Int) < 40) = false) := by
        by_cases h1 : (i : Int) < len1
        · right; exact ⟨decide_eq_true h1, decide_eq_false (by omega)⟩
        · left; exact decide_eq_false (by omega)
      have hn800 : n ≤ 760 := by omega
      have heach := sb_each HS.out (by rw [HL.out, HN.out]; omega)
      rw [HL.out] at heach
      obtain ⟨E, hE⟩ : ∃ E, dd none L = E := ⟨_, rfl⟩
      rw [hE] at heach
      obtain ⟨ne, hne⟩ : ∃ ne, E.length = ne := ⟨_, rfl⟩
      have hned : ne ≤ n := by rw [← hne, ← hE, ← HN.out]; exact dd_len _ _
      have HE := Lib.hid hE; have HNE := Lib.hid hne; have HEACH := Lib.hid heach
      clear hlt hi hi40 hKi heach hE hne
      rcases hcase with hd1 | ⟨hd1, hd2⟩
      rotate_left
      have hn2 : ¬ (i : Int) < 40 := of_decide_eq_false hd2
      have hn1 : (i : Int) < len1 := of_decide_eq_true hd1
      all_goals
        go_wp2_with fail
        refine HEACH.out.mono ?_
        rintro e w5 ⟨ev, rfl, hr5, hk5⟩
        have HR5 := Lib.hid hr5; have HS5 := Lib.hid (HS.out.keep hk5)
        have HRK5 : Hid (w5.ownsRow 0 3 1 (.slice ao n cp) n (L.flatMap iC)) := Lib.hid (row_keep HRK.out hk5 (fun _ _ f => f))
        obtain ⟨eo, ec, rfl, hec, hecm, hre⟩ := hr5.slice HNE.out
        have HRE := Lib.hid hre
        clear hr5 hk5 hre
        (try clear hn1)
        (try clear hn2)
        (try clear hd1)
        (try clear hd2)
        go_wp2_with fail
        go_loopw [18, 19] (fun kv jv wr => ∃ j k : Nat, j ≤ n ∧ k ≤ j ∧ jv = .int .i64 j ∧ kv = .int .i64 k ∧ (dd none (L.take j)).length = k ∧ Keep NoF w5 wr) (fun _ jv _ => n - (intOf jv).toNat)
        case atStart => exact ⟨0, 0, Nat.zero_le _, Nat.le_refl _, rfl, rfl, by simp [dd], Keep.refl _ _⟩
        case round =>
          obtain ⟨j, k, hj, hkj, rfl, rfl, hdk, hk⟩ := hrel
          have HDK := Lib.hid hdk; have HK := Lib.hid hk
          clear hdk hk
          by_cases hlt : j < n
          · have hlt2 : (j : Int) < n := by omega
            have hil3 : decide (n ≤ j) = false := by simp; omega
            have hjL : j < L.length := by rw [HN.out]; exact hlt
            obtain ⟨y, hy⟩ : ∃ y, L[j] = y := ⟨_, rfl⟩
            have hat := sb_at (HS5.out.keep HK.out) (by rw [HL.out, HN.out]; omega) (j : Int) (by omega)
            have hats : atI l (j : Int) = some y := by
              unfold atI
              rw [if_neg (by omega), HL.out, Int.toNat_natCast, List.getElem?_eq_getElem hjL, hy]
            rw [hats] at hat
            have HAT := Lib.hid hat
            have hst := dd_step hjL
            have hda := dd_at hjL
            simp only [hy] at hst hda
            have HST := Lib.hid hst; have HDA := Lib.hid hda; have HY := Lib.hid hy
            clear hat hats hst hda hy
            go_wp2_with fail
            refine HAT.out.mono ?_
            rintro e w6 ⟨rfl, hk6⟩
            have HK6 := Lib.hid (HK.out.trans' hk6)
            clear hk6
            obtain ⟨g1, rfl, d1⟩ := row_at (row_keep HRK5.out HK6.out (fun _ _ f => f)) HN.out j hjL
            rw [HY.out] at d1
            have D1 := Lib.hid d1
            have hjp : j - 1 < L.length := by omega
            by_cases hj0 : j = 0
            · have hj1 : ((j : Int) == 0) = true := by simp [hj0]
              have hnot : ¬ (0 < j ∧ L[j - 1]'hjp = y) := fun e => by omega
              have HDD : Hid (dd none (L.take (j + 1)) = dd none (L.take j) ++ [y]) := Lib.hid (by rw [HST.out, if_neg hnot])
              obtain ⟨hl0, ha0⟩ := HDA.out hnot
              have he0 : k < ne := by rw [← HNE.out, ← HE.out, ← HDK.out]; exact hl0
              have HA0 : Hid (E[k]'(by rw [HNE.out]; exact he0) = y) := Lib.hid (by have := ha0; simp only [HDK.out] at this; simp only [← HE.out]; exact this)
              have he2 : (k : Int) < ne := by omega
              have he3 : decide (ne ≤ k) = false := by simp; omega
              have he4 : decide ((ne : Int) ≤ k) = false := by simp; omega
              have he5 : ¬ (ne : Int) ≤ k := by omega
              clear hl0 ha0 hnot hj0
              go_wp2_with fail
              go_quiet (fail)
              go_wp2_with fail
              refine wp_named (wq := w6) (by first | exact (Keep.refl NoF w6).drewN _ | exact (Keep.refl NoF w6).drew) ?_
              intro w7 hk7
              have HK7 := Lib.hid (HK6.out.trans' hk7)
              clear d1
              have d1 := hk7.cell' D1.out (fun f => f)
              obtain ⟨g2, e2, d2⟩ := row_at (row_keep HRE.out HK7.out (fun _ _ f => f)) HNE.out k (by rw [HNE.out]; exact he0)
              rw [HA0.out] at d2
              subst e2
              clear hk7
              go_quiet (fail)
              go_wp2_with fail
              go_roundw
              case rel => exact ⟨j + 1, k + 1, by omega, by omega, by go_num, by go_num, by rw [HDD.out, List.length_append, HDK.out]; rfl, HK7.out.trans' (by first | exact (Keep.refl NoF w7).drewN _ | exact (Keep.refl NoF w7).drew)⟩
              case measure => simp [intOf]; omega
            · obtain ⟨m, hm⟩ : ∃ m, j = m + 1 := ⟨j - 1, by omega⟩
              have hmI : (j : Int) - 1 = (m : Int) := by omega
              have hmW : IntKind.i64.wrap ((j : Int) - 1) = (m : Int) := by rw [hmI]; exact IntWalk.i64_in _ (by omega)
              have hmn : m < n := by omega
              have hmn2 : (m : Int) < n := by omega
              have hmn3 : decide (n ≤ m) = false := by simp; omega
              have hj1 : ((j : Int) == 0) = false := by simp; omega
              have hmL : m < L.length := by rw [HN.out]; exact hmn
              obtain ⟨_, e1, d2⟩ := row_at (row_keep HRK5.out HK6.out (fun _ _ f => f)) HN.out m hmL
              injection e1 with e1
              injection e1 with e1
              subst e1
              obtain ⟨y2, hy2⟩ : ∃ y2, L[m] = y2 := ⟨_, rfl⟩
              rw [hy2] at d2
              have hprev : L[j - 1]'hjp = y2 := by rw [← hy2]; congr 1; omega
              have hjpos : 0 < j := by omega
              clear hm hj0 hy2
              by_cases hyy : y2 = y
              · have hne : (y != y2) = false := by simp [hyy]
                have HDD : Hid (dd none (L.take (j + 1)) = dd none (L.take j)) := Lib.hid (by rw [HST.out, if_pos ⟨hjpos, hprev.trans hyy⟩, List.append_nil])
                clear hprev
                subst hyy
                go_wp2_with fail
                go_quiet (fail)
                go_wp2_with fail
                go_roundw
                case rel => exact ⟨j + 1, k, by omega, by omega, by go_num, rfl, by rw [HDD.out, HDK.out], HK6.out.trans' (by first | exact (Keep.refl NoF w6).drewN _ | exact (Keep.refl NoF w6).drew)⟩
                case measure => clear hmI hmW; simp [intOf]; omega
              · have hne : (y != y2) = true := by simp; exact fun e => hyy e.symm
                have hnot : ¬ (0 < j ∧ L[j - 1]'hjp = y) := fun e => hyy (hprev.symm.trans e.2)
                have HDD : Hid (dd none (L.take (j + 1)) = dd none (L.take j) ++ [y]) := Lib.hid (by rw [HST.out, if_neg hnot])
                obtain ⟨hl0, ha0⟩ := HDA.out hnot
                have he0 : k < ne := by rw [← HNE.out, ← HE.out, ← HDK.out]; exact hl0
                have HA0 : Hid (E[k]'(by rw [HNE.out]; exact he0) = y) := Lib.hid (by have := ha0; simp only [HDK.out] at this; simp only [← HE.out]; exact this)
                have he2 : (k : Int) < ne := by omega
                have he3 : decide (ne ≤ k) = false := by simp; omega
                have he4 : decide ((ne : Int) ≤ k) = false := by simp; omega
                have he5 : ¬ (ne : Int) ≤ k := by omega
                clear hl0 ha0 hnot hprev
                go_wp2_with fail
                go_quiet (fail)
                go_wp2_with fail
                refine wp_named (wq := w6) (by first | exact (Keep.refl NoF w6).drewN _ | exact (Keep.refl NoF w6).drew) ?_
                intro w7 hk7
                have HK7 := Lib.hid (HK6.out.trans' hk7)
                clear d1 d2 hmI hmW
                have d1 := hk7.cell' D1.out (fun f => f)
                obtain ⟨g2, e2, d2⟩ := row_at (row_keep HRE.out HK7.out (fun _ _ f => f)) HNE.out k (by rw [HNE.out]; exact he0)
                rw [HA0.out] at d2
                subst e2
                clear hk7
                go_quiet (fail)
                go_wp2_with fail
                go_roundw
                case rel => exact ⟨j + 1, k + 1, by omega, by omega, by go_num, by go_num, by rw [HDD.out, List.length_append, HDK.out]; rfl, HK7.out.trans' (by first | exact (Keep.refl NoF w7).drewN _ | exact (Keep.refl NoF w7).drew)⟩
                case measure => simp [intOf]; omega
          · have hlt2 : ¬ (j : Int) < n := by omega
            have hlt3 : decide (j < n) = false := by simp [hlt]
            obtain rfl : j = n := by omega
            have hkne : k = ne := by rw [← HDK.out, ← HNE.out, ← HE.out, List.take_of_length_le (by rw [HN.out]; exact Nat.le_refl _)]
            subst hkne
            have HS6 := Lib.hid (HS5.out.keep HK.out)
            have hat1 := fun W (hW : Keep NoF wr W) => sb_at (HS6.out.keep hW) (by rw [HL.out, HN.out]; omega) (j : Int) (by omega)
            have hat2 := fun W (hW : Keep NoF wr W) => sb_at (HS6.out.keep hW) (by rw [HL.out, HN.out]; omega) (-1) (by omega)
            have hkd := fun W (hW : Keep NoF wr W) => sb_kinds (HS6.out.keep hW) (n := k) (by rw [HL.out, HE.out]; exact HNE.out)
            have ha1 : atI l (j : Int) = none := by
              unfold atI
              rw [if_neg (by omega), HL.out, Int.toNat_natCast, List.getElem?_eq_none (by rw [HN.out]; exact Nat.le_refl _)]
            have ha2 : atI l (-1) = none := by unfold atI; rw [if_pos (by omega)]
            rw [ha1] at hat1
            rw [ha2] at hat2
            have HAT1 := Lib.hid hat1; have HAT2 := Lib.hid hat2; have HKD := Lib.hid hkd
            clear hat1 hat2 hkd ha1 ha2
            go_wp2_with fail
            refine (HAT1.out wr (Keep.refl _ _)).mono ?_
            rintro e w6 ⟨rfl, hk6⟩
            have HK6 := Lib.hid hk6
            clear hk6
            go_wp2_with fail
            refine (HAT2.out w6 HK6.out).mono ?_
            rintro e w7 ⟨rfl, hk7⟩
            have HK7 := Lib.hid (HK6.out.trans' hk7)
            clear hk7
            go_wp2_with fail
            refine (HKD.out w7 HK7.out).mono ?_
            rintro e w' ⟨rfl, hw⟩
            obtain rfl : w7 = w' := hw.symm
            go_wp2_with fail
            go_ret
            exact ⟨rfl, HS6.out.kp.trans' HK7.out⟩

set_option linter.unusedVariables false
set_option maxRecDepth 100000 in
theorem lifted (os : Os) (started : os.Started) (H : Type) (enc : TypeId × Value → H) :
    ReturnsInHanded {} Try.checked os 9 .any (Rows.bagAllSpec.pre6 enc Try.prog Try.f9 Rows.bagAllRow.domain false) (Rows.bagAllSpec.post enc Try.prog Try.f9 false true false false) := by
  refine returnsInHanded_of_change (C := Try.checked) own started (by kernel_rfl) Try.func9
    (ChangeSpec.witness6 (enc := enc) (C := Try.checked) false ⟨#[], #[.bool false, .slice none 0 0], []⟩ 8 (by kernel_rfl) (by kernel_rfl) (by kernel_rfl) (by kernel_rfl)) ?_
  intro W base args ds gs before hval0 hW hcnd _
  have hval : ∀ (j : Nat) t v, Try.f9.params[j]? = some t → args[j]? = some v → Value.okWide Try.prog W .any base t v := hval0
  have hW' := hW
  obtain ⟨p, q, hA0, hV, rfl, hfz, hnd⟩ := hW
  have hA : DataW.TrodAll enc Try.prog W 0 (fun _ => true) true Try.f9.params.toList args.toList ds p := hA0
  rw [Try.params9] at hA hval
  obtain ⟨v0, vs0, d0, ds0, p0, q0, hargs, rfl, rfl, h0, r0⟩ := trodAll_cons hA
  obtain ⟨v1, vs1, d1, ds1, p1, q1, rfl, rfl, rfl, h1, r1⟩ := trodAll_cons r0
  obtain ⟨rfl, rfl, rfl⟩ := trodAll_nil r1
  obtain rfl : args = #[v0, v1] := by cases args; simp_all
  obtain ⟨rfl, rfl⟩ := trodVars_none hV
  obtain ⟨a0, rfl, rfl, rfl⟩ := open_bool Try.underlying4 (hval 0 4 v0 rfl rfl) h0
  obtain ⟨a1, len1, cap1, rfl⟩ := okWide_slice Try.underlying32 (hval 1 32 v1 rfl rfl)
  have k1 := h1
  have lt1 : ∀ x ∈ p1, x.block < W.heap.size := by obtain ⟨m, hm⟩ := k1; exact DataW.trod_lt m _ _ _ hm
  obtain ⟨z1, w1⟩ := open_arg1 W base h1
  clear hA0 hval0
  refine (walk W a0 a1 len1 cap1 z1 w1).mono fun e W' ⟨he, hk⟩ => ?_
  subst he
  have bel := Keep.below hk
  exact ⟨_, rfl, _, _, _, [], _, [], hW', trodAll_mk1 (shut_bool Try.underlying4 _), (trodAll_cons_mk (shut_bool Try.underlying4 a0) (trodAll_cons_mk (Below.trod laidOut (by kernel_rfl) (of_decide_eq_true (by kernel_rfl)) k1 bel lt1) trodAll_mk0)), rfl, bel.frame _, fun h => by cases h⟩

theorem over : Rows.bagAllRow.holds Try.pinned (OpenSpec.ofChange Rows.bagAllSpec) :=
  OpenClaim.holds_of_wide 9 Try.f9 rfl rfl rfl rfl rfl rfl rfl ⟨rfl, rfl, rfl, rfl, rfl⟩ rfl rfl rfl rfl rfl (by kernel_rfl) Try.func9 (by kernel_rfl)
    (of_decide_eq_true (by kernel_rfl)) (by unfold Func.isWrapper; rw [if_neg (of_decide_eq_false (by kernel_rfl))]; exact ⟨rfl, rfl⟩)
    (fun os started H enc _ => lifted os started H enc)

/-- The statement. -/
theorem proved : Rows.BagAllSaid := over
#print axioms proved
end Go.Proofs.Ytidpfkehmokdfaa.bagAll
