/- SessAll: the law returns true and changes nothing that was there. No conditions. -/
import Derived.Test.YtdbgplnjppaimaaGreatLaw13o
import Derived.Deep.CutRange
import Derived.Deep.CutBlock
import Derived.Test.YtdbgplnjppaimaaGreatRows
import Derived.WalkKit
import Derived.ProofKit
import Derived.OpenShut
import Derived.ShutString
import Derived.ChangeOld
import Derived.Below
namespace Go.Proofs.YtdbgplnjppaimaaGreat.sessAll
open Go Go.ChangeShapes Go.WideShapes Go.ChangeAt Go.RowKit
open Go.ChangeMaps (open_string shut_string)

theorem own : ownKnob Tryz.prog.godebug = none := by kernel_rfl
theorem laidOut : laidOutB Tryz.prog = true := by kernel_rfl

open Go.Proofs Go.RowKit Go.Maps Go.Sort Go.Shelf
theorem open_arg1 {H : Type} {enc : TypeId × Value → H} {a : Option Addr} {len cap : Nat} {d : DataW H} {p : List MemPlace} (W : World) (_base : Nat)
    (h : DataW.Trod enc Tryz.prog W 0 (fun _ => true) true 47 (.slice a len cap) d p) : ∃ z, IsOpsQ W a len cap z := open_opsQ h
structure SV where
  id : Int
  tid : Int
  age : Int
def sC (a : SV) : List Value := [.int .i64 a.id, .int .i64 a.tid, .int .i64 a.age]
theorem sC_len (a : SV) : (sC a).length = 3 := rfl
theorem sC_one (a : SV) : ∀ u ∈ sC a, u.oneCell' = true := by
  intro u hu
  simp only [sC, List.mem_cons, List.not_mem_nil, or_false] at hu
  rcases hu with rfl | rfl | rfl <;> rfl
theorem infoS : (Tryz.prog.info? 63).map (fun i => (i.zero, i.size, i.bytes)) = some (some (.agg #[.int .i64 0, .int .i64 0, .int .i64 0]), 3, 24) := by kernel_rfl
def sv (td ag : Int → Int) (x : Int) : SV := ⟨x, td x, ag x⟩
abbrev OwnV (wr : World) (v : Value) (L : List SV) : Prop := wr.ownsRow 0 63 3 v L.length (L.flatMap sC)
/-- The law's own row. -/
def RowV (w wr : World) (v : Value) (L : List SV) (p mb tp tm : Nat) : Prop := (∃ ao cp, v = .slice ao L.length cp ∧ OwnV wr v L ∧ ∀ g, v.ownBlock = some g → w.heap.size ≤ g) ∧ Dj v p mb tp tm
theorem RowV.keepH {F : Nat → Prop} {w wr wc : World} {v : Value} {L : List SV} {p mb tp tm : Nat} (h : RowV w wr v L p mb tp tm) (hk : Keep F wr wc) (hf : ∀ g, v.ownBlock = some g → ¬ F g) : RowV w wc v L p mb tp tm := by
  obtain ⟨⟨ao, cp, e, h1, h2⟩, h3⟩ := h
  exact ⟨⟨ao, cp, e, row_keep h1 hk hf, h2⟩, h3⟩
theorem RowV.keepN {w wr wc : World} {v : Value} {L : List SV} {p mb tp tm : Nat} (h : RowV w wr v L p mb tp tm) (hk : Keep NoF wr wc) : RowV w wc v L p mb tp tm := h.keepH hk (fun _ _ f => f)
theorem RowV.keep {w wr wc : World} {v : Value} {L : List SV} {p mb tp tm : Nat} (h : RowV w wr v L p mb tp tm) (hk : Keep (SF p mb tm) wr wc) : RowV w wc v L p mb tp tm :=
  h.keepH hk (fun g hg f => by have := h.2 g hg; rcases f with f | f | f; exact this.1 f; exact this.2.1 f; exact this.2.2.2 f)
theorem RowV.slice {w wr : World} {v : Value} {L : List SV} {p mb tp tm n : Nat} (h : RowV w wr v L p mb tp tm) (hn : L.length = n) : ∃ ao cp, v = .slice ao n cp ∧ n ≤ cp ∧ (cp : Int) ≤ 9223372036854775807 ∧ wr.ownsRow 0 63 3 (.slice ao n cp) n (L.flatMap sC) := by
  subst hn
  obtain ⟨⟨ao, cp, rfl, h1, h2⟩, h3⟩ := h
  have hc := row_cap h1
  obtain ⟨hc1, hc2⟩ := hc
  unfold maxLen at hc2
  exact ⟨ao, cp, rfl, hc1, by omega, h1⟩
theorem RowV.new {w wr wc : World} {ao : Option Addr} {n cp : Nat} {L : List SV} {p mb tp tm nb : Nat} {br last : Int} {K0 : List Int} {td ag : Int → Int} (hr : wc.ownsRow 0 63 3 (.slice ao n cp) n (L.flatMap sC)) (hn : L.length = n)
    (hf : ∀ g, (Value.slice ao n cp).ownBlock = some g → wr.heap.size ≤ g) (hs : SSt w wr p mb tp tm nb br last K0 td ag) : RowV w wc (.slice ao n cp) L p mb tp tm := by
  subst hn
  exact ⟨⟨ao, cp, rfl, hr, fun g hg => Nat.le_trans hs.kp.size (hf g hg)⟩, fun g hg => by have := hf g hg; have := hs.1.lt; omega⟩
/-- One cell turned. -/
theorem RowV.store {w wr : World} {ao : Option Addr} {n cp : Nat} {L : List SV} {p mb tp tm : Nat} (h : RowV w wr (.slice ao n cp) L p mb tp tm) (hn : L.length = n) (k j : Nat) (hk : k < L.length) (hj : j < 3) (a' : SV) (u : Value) (ha : sC a' = (sC L[k]).set j u) :
    ∃ g, ao = some ⟨g, 0, none⟩ ∧ wr.frozen? ⟨g, k * 3 + j, none⟩ = false ∧ RowV w (wr.setCell ⟨g, k * 3 + j, none⟩ u) (.slice ao n cp) (L.set k a') p mb tp tm ∧ Keep (fun q => q = g) wr (wr.setCell ⟨g, k * 3 + j, none⟩ u) ∧ (w.heap.size ≤ g ∧ g ≠ p ∧ g ≠ mb ∧ g ≠ tp ∧ g ≠ tm) := by
  subst hn
  obtain ⟨⟨ao', cp', e, h1, h2⟩, h3⟩ := h
  cases e
  have hlen := flat_length sC_len L
  obtain ⟨g, rfl, f1, f2, f3⟩ := rowRaw_set h1 (k * 3 + j) (by rw [hlen]; omega) u
  rw [flat_set sC_len hj L k hk ha] at f2
  exact ⟨g, rfl, f1, ⟨⟨_, _, by rw [List.length_set], by unfold OwnV; rw [List.length_set]; exact f2, h2⟩, h3⟩, f3, h2 g rfl, (h3 g rfl).1, (h3 g rfl).2.1, (h3 g rfl).2.2.1, (h3 g rfl).2.2.2⟩
theorem RowV.at {w wr : World} {ao : Option Addr} {n cp : Nat} {L : List SV} {p mb tp tm : Nat} (h : RowV w wr (.slice ao n cp) L p mb tp tm) (hn : L.length = n) (k : Nat) (hk : k < L.length) :
    ∃ g, ao = some ⟨g, 0, none⟩ ∧ wr.cell? ⟨g, k * 3, none⟩ = some (.int .i64 L[k].id) ∧ wr.cell? ⟨g, k * 3 + 1, none⟩ = some (.int .i64 L[k].tid) ∧ wr.cell? ⟨g, k * 3 + 2, none⟩ = some (.int .i64 L[k].age) := by
  subst hn
  obtain ⟨⟨ao', cp', e, h1, h2⟩, h3⟩ := h
  cases e
  obtain ⟨g, e, hc⟩ := rowK_cell sC_len h1 rfl k hk
  exact ⟨g, e, by simpa using hc 0 _ rfl, hc 1 _ rfl, hc 2 _ rfl⟩
/-- The state of the law. -/
structure SA (w wr : World) (p mb tp tm nb : Nat) (br made : Int) (K : List Int) (td ag : Int → Int) (v : Value) : Prop where
  s : SSt w wr p mb tp tm nb br made K td ag
  r : RowV w wr v (K.map (sv td ag)) p mb tp tm
def SB (w wr : World) (p mb tp tm : Nat) (br : Int) (i : Nat) (v mv : Value) : Prop := ∃ (nb : Nat) (made : Int) (K : List Int) (td ag : Int → Int), mv = .int .i64 made ∧ nb ≤ 22 * i ∧ 0 ≤ made ∧ made ≤ i ∧ K.length ≤ 20 ∧ (∀ x ∈ K, 0 ≤ td x ∧ td x ≤ 3 ∧ 0 ≤ ag x ∧ ag x ≤ i) ∧ SA w wr p mb tp tm nb br made K td ag v
theorem SA.keepN {w wr wc : World} {p mb tp tm nb : Nat} {br made : Int} {K : List Int} {td ag : Int → Int} {v : Value} (h : SA w wr p mb tp tm nb br made K td ag v) (hk : Keep NoF wr wc) : SA w wc p mb tp tm nb br made K td ag v := ⟨h.s.keepN hk, h.r.keepN hk⟩
theorem tmodN (x : Int) (n : Nat) (hn : 0 < n) : -(n : Int) < x.tmod n ∧ x.tmod n < n := by
  have h1 := Int.tmod_lt_of_pos x (b := (n : Int)) (by omega)
  refine ⟨?_, h1⟩
  rcases Int.le_total 0 x with h | h
  · have := Int.tmod_nonneg (n : Int) h; omega
  · have h3 := Int.tmod_lt_of_pos (-x) (b := (n : Int)) (by omega)
    rw [Int.neg_tmod] at h3; omega
theorem modN (x : Int) (n : Nat) (hn : 0 < n) : ∃ k : Nat, (x.tmod n + n) % n = k ∧ k < n := by
  have h1 := Int.emod_nonneg (x.tmod n + n) (b := (n : Int)) (by omega)
  have h2 := Int.emod_lt_of_pos (x.tmod n + n) (b := (n : Int)) (by omega)
  exact ⟨((x.tmod n + n) % n).toNat, by omega, by omega⟩
theorem mod8q (x : Int) : (-8 < x.tmod 8 ∧ x.tmod 8 < 8) ∧ ∃ k : Nat, (x.tmod 8 + 8) % 8 = k ∧ k < 8 := ⟨tmodN x 8 (by omega), modN x 8 (by omega)⟩
theorem mod25q (x : Int) : (-25 < x.tmod 25 ∧ x.tmod 25 < 25) ∧ ∃ k : Nat, (x.tmod 25 + 25) % 25 = k ∧ k < 25 := ⟨tmodN x 25 (by omega), modN x 25 (by omega)⟩
theorem mod4q (x : Int) : (-4 < x.tmod 4 ∧ x.tmod 4 < 4) ∧ ∃ k : Nat, (x.tmod 4 + 4) % 4 = k ∧ k < 4 := ⟨tmodN x 4 (by omega), modN x 4 (by omega)⟩
/-- Has one of the first j, other than x, the transaction t? -/
def hasB (td : Int → Int) (K : List Int) (x t : Int) (j : Nat) : Bool := (K.take j).any fun y => (t != 0) && (td y == t) && (y != x)
theorem hasB_succ (td : Int → Int) (K : List Int) (x t : Int) (j : Nat) (hj : j < K.length) : hasB td K x t (j + 1) = (hasB td K x t j || ((t != 0) && (td K[j] == t) && (K[j] != x))) := by
  unfold hasB; rw [List.take_succ_eq_append_getElem hj, List.any_append]; simp
theorem hasB_iff {td : Int → Int} {K : List Int} {x t : Int} {n : Nat} (hn : K.length = n) : hasB td K x t n = true ↔ Taken K td x t := by
  unfold hasB Taken
  rw [List.take_of_length_le (by omega), List.any_eq_true]
  constructor
  · rintro ⟨y, hy, h⟩
    simp only [Bool.and_eq_true, bne_iff_ne, ne_eq, beq_iff_eq] at h
    exact ⟨h.1.1, y, hy, h.2, h.1.2⟩
  · rintro ⟨ht, y, hy, hyx, hyt⟩
    exact ⟨y, hy, by simp only [Bool.and_eq_true, bne_iff_ne, ne_eq, beq_iff_eq]; exact ⟨⟨ht, hyt⟩, hyx⟩⟩
theorem filt_erase {K : List Int} (h : K.Pairwise (· < ·)) {k : Nat} (hk : k < K.length) : K.filter (fun z => decide (z ≠ K[k])) = K.eraseIdx k :=
  rise_uniq (h.filter _) (h.sublist (List.eraseIdx_sublist _ _)) (fun y => by rw [mem_cut h hk, List.mem_filter]; simp)
theorem map_new {K : List Int} {td ag : Int → Int} {x : Int} (hx : x ∉ K) : K.map (sv td ag) ++ [⟨x, 0, 0⟩] = (K ++ [x]).map (sv (tdUp td x 0) (agUp ag x)) := by
  rw [List.map_append, List.map_singleton]
  congr 1
  · refine List.map_congr_left fun y hy => ?_
    have : y ≠ x := fun e => hx (e ▸ hy)
    unfold sv tdUp agUp; simp [this]
  · unfold sv tdUp agUp; simp
theorem sv_len {K : List Int} {td ag : Int → Int} {n : Nat} (h : K.length = n) : (K.map (sv td ag)).length = n := by rw [List.length_map, h]
theorem sv_len0 {K : List Int} {td ag : Int → Int} {n : Nat} (h : (K.map (sv td ag)).length = n) : K.length = n := by rw [List.length_map] at h; exact h
/-- In the midst of a tick. -/
def midS (td ag : Int → Int) (K : List Int) (j : Nat) : List SV := (K.take j).map (sv td (fun z => ag z + 1)) ++ (K.drop j).map (sv td ag)
theorem midS_zero (td ag : Int → Int) (K : List Int) : midS td ag K 0 = K.map (sv td ag) := by unfold midS; simp
theorem midS_end (td ag : Int → Int) (K : List Int) {n : Nat} (hn : K.length = n) : midS td ag K n = K.map (sv td (fun z => ag z + 1)) := by unfold midS; rw [List.take_of_length_le (by omega), List.drop_of_length_le (by omega)]; simp
theorem midS_len (td ag : Int → Int) (K : List Int) (j : Nat) {n : Nat} (hn : K.length = n) : (midS td ag K j).length = n := by
  unfold midS; rw [List.length_append, List.length_map, List.length_map, List.length_take, List.length_drop]; omega
theorem midS_get (td ag : Int → Int) (K : List Int) (j : Nat) (hj : j < K.length) (h : j < (midS td ag K j).length) : (midS td ag K j)[j] = sv td ag K[j] := by
  have e : (midS td ag K j)[j]? = some (sv td ag K[j]) := by
    unfold midS
    rw [List.getElem?_append_right (by simp; omega)]
    have e : j - (List.map (sv td fun z => ag z + 1) (List.take j K)).length = 0 := by simp; omega
    rw [e]; simp [List.getElem?_eq_getElem hj]
  exact Option.some.inj ((List.getElem?_eq_getElem h).symm.trans e)
theorem midS_set (td ag : Int → Int) (K : List Int) (j : Nat) (hj : j < K.length) : (midS td ag K j).set j (sv td (fun z => ag z + 1) K[j]) = midS td ag K (j + 1) := by
  unfold midS
  rw [List.set_append_right _ _ (by simp; omega)]
  have e : j - (List.map (sv td fun z => ag z + 1) (List.take j K)).length = 0 := by simp; omega
  rw [e, List.drop_eq_getElem_cons hj, List.map_cons, List.set_cons_zero, List.take_succ_eq_append_getElem hj, List.map_append, List.append_assoc]
  rfl
theorem midS_get2 (td ag : Int → Int) (K : List Int) (j : Nat) (hj : j < K.length) (h : j < (midS td ag K (j + 1)).length) : (midS td ag K (j + 1))[j] = sv td (fun z => ag z + 1) K[j] := by
  have e := midS_set td ag K j hj
  simp only [← e, List.getElem_set_self]
/-- In the midst of a tick: the rows, the sessions. -/
def TK (w W1 wq : World) (p mb tp tm nb : Nat) (br made : Int) (K : List Int) (td ag : Int → Int) (old : Int → Bool) (v ov : Value) (m : Nat) : Prop :=
  RowP 2 W1.heap.size wq ov ((K.take m).filter old) ∧ SSt w wq p mb tp tm nb br made K td ag ∧ RowV w wq v (midS td ag K m) p mb tp tm ∧ (∀ g, v.ownBlock = some g → g < W1.heap.size) ∧ W1.heap.size ≤ wq.heap.size
set_option maxHeartbeats 32000000 in
set_option maxRecDepth 8000 in
theorem walk (w : World) (b : Int) (hb : (Lit.int .i64 b).wf = true) (a1 : Option Addr) (len1 cap1 : Nat) (z1 : List OpQ) (h1 : IsOpsQ w a1 len1 cap1 z1) :
    Calls Tryz.prog 10 #[.int .i64 b, .slice a1 len1 cap1] w fun e w' => e = .returned (.bool true) ∧ Keep NoF w w' := by
  obtain ⟨hl1, hok, s1⟩ := h1
  have c1 := s1.1; have c1m := s1.2.1
  rw [hl1] at c1
  unfold maxLen at c1m
  have S1 := Lib.hid s1; have HL1 := Lib.hid hl1; have HOK := Lib.hid hok
  have hbb := bounds_i64 hb
  clear s1 hl1 hok hb
  obtain ⟨hbt, b8, hb8, hb8l⟩ := mod8q b
  obtain ⟨br, hbr⟩ : ∃ br : Int, 1 + (b8 : Int) = br := ⟨_, rfl⟩
  have hbr1 : 1 ≤ br ∧ br ≤ 8 := by omega
  go_enter Tryz.func10, Tryz.ntmps10
  go_wp2_with fail
  refine (begun13_any w).mono ?_
  rintro e w1 ⟨rfl, hk⟩
  have K1 := Lib.hid hk
  clear hk
  go_upto_region 5 with fail
  rw [hb8]
  (try rw [hbr])
  clear hb8 hbr hbt hbb hb8l
  go_wp2_with fail
  refine (newSes_any br hbr1 w1).mono ?_
  rintro e w2 hN
  obtain ⟨p, mb, tp, tm, rfl, hS⟩ := sst_new K1.out hN
  have S2 := Lib.hid hS
  clear hN hS
  go_wp2_with fail
  go_loopw [7, 8, 9] (fun v mv iv wr => ∃ (i : Nat), i ≤ min len1 80 ∧ iv = .int .i64 i ∧ SB w wr p mb tp tm br i v mv) (fun _ _ iv _ => 80 - (intOf iv).toNat)
  case atStart => exact ⟨0, Nat.zero_le _, rfl, 0, 0, [], _, _, rfl, Nat.le_refl _, Int.le_refl _, by omega, by simp, nofun, S2.out, ⟨none, 0, rfl, World.ownsRow_nil _ _ _ _, nofun⟩, nofun⟩
  case round =>
    obtain ⟨i, hi, rfl, nb, made, K, td, ag, rfl, hnb, hm0, hmi, hK20, hrg, hA⟩ := hrel
    have HA := Lib.hid hA; have HRG := Lib.hid hrg
    have KP := Lib.hid hA.s.kp
    obtain ⟨n, hn⟩ : ∃ n, K.length = n := ⟨_, rfl⟩
    obtain ⟨ao, cp, rfl, hcp, hcm, hro⟩ := hA.r.slice (sv_len hn)
    have HN := Lib.hid hn
    rw [hn] at hK20
    clear hA hro hn hrg
    go_upto_region 9 with fail
    go_cut [41] from 34 to 41 (fun v wx => v = .bool (decide (i < len1 ∧ i < 80)) ∧ wr = wx)
    case first =>
      by_cases hlt : i < len1
      · have hlt2 : (i : Int) < len1 := by omega
        have hlt3 : decide (i < len1) = true := by simp [hlt]
        by_cases h80 : i < 80
        · have h80b : (i : Int) < 80 := by omega
          have h80c : decide ((i : Int) < 80) = true := by simp [h80b]
          have HG : Hid (decide (i < len1 ∧ i < 80) = true) := Lib.hid (decide_eq_true ⟨hlt, h80⟩)
          go_wp2_with fail
          go_meet
          exact ⟨by rw [HG.out], rfl⟩
        · have h80b : ¬ (i : Int) < 80 := by omega
          have h80c : decide ((i : Int) < 80) = false := by simp [h80b]
          have HG : Hid (decide (i < len1 ∧ i < 80) = false) := Lib.hid (decide_eq_false (fun e => h80 e.2))
          go_wp2_with fail
          go_meet
          exact ⟨by rw [HG.out], rfl⟩
      · have hlt2 : ¬ (i : Int) < len1 := by omega
        have hlt3 : decide (i < len1) = false := by simp [hlt]
        have HG : Hid (decide (i < len1 ∧ i < 80) = false) := Lib.hid (decide_eq_false (fun e => hlt e.1))
        go_wp2_with fail
        go_meet
        exact ⟨by rw [HG.out], rfl⟩
    case rest =>
    obtain ⟨rfl, rfl⟩ := hcut
    by_cases hgo : i < len1 ∧ i < 80
    · rw [decide_eq_true hgo]
      obtain ⟨hlt, h80⟩ := hgo
      have hlt2 : (i : Int) < len1 := by omega
      have hlt4 : decide (len1 ≤ i) = false := by simp; omega
      obtain ⟨gl, ol, rfl, b0, b1, b2, b3, b4⟩ := opQ_at (S1.out.keep KP.out (fun _ _ f => f)) i (by rw [HL1.out]; exact hlt)
      have hPok := HOK.out _ (List.getElem_mem (by rw [HL1.out]; exact hlt : i < z1.length))
      generalize z1[i]'(by rw [HL1.out]; exact hlt) = Q at b0 b1 b2 b3 b4 hPok
      obtain ⟨kd, T0, U0, P0⟩ := Q
      dsimp only at b0 b1 b2 b3 b4
      obtain ⟨bk, bT, bU, _, _⟩ := hPok
      dsimp only at bk bT bU
      unfold In64 at bk bT bU
      obtain ⟨hTt, k25, hk25, hk25l⟩ := mod25q T0
      obtain ⟨hUt, t, ht, ht4⟩ := mod4q U0
      go_wp2_with fail
      (try rw [hk25])
      refine (rmake_any br (1 + (k25 : Int)) _ (by omega) (by omega)).mono ?_
      rintro e w' ⟨rfl, hw⟩
      have HMK := Lib.hid (make_is br (1 + (k25 : Int)) hbr1 (by omega))
      obtain ⟨x, hx⟩ : ∃ x, makeOf br (1 + (k25 : Int)) = x := ⟨_, rfl⟩
      rw [hx]
      have hxk : KI x := by rw [← hx, HMK.out]; exact ki_of (by omega)
      have hxb : 0 < x := by rw [← hx, HMK.out]; omega
      have HX := Lib.hid hxk
      clear hx hxk hk25 hTt HMK
      obtain ⟨W1, hW1⟩ : ∃ W, W = w' := ⟨_, rfl⟩
      have HKW : Hid (Keep NoF wr W1) := Lib.hid (by rw [hW1, hw]; exact (Keep.refl NoF wr).alloc _)
      have bo : W1.heap[wr.heap.size]? = some (.cells #[.int .i64 kd, .int .i64 T0, .int .i64 U0, .string P0.q, .string P0.b] 50 (0, 0)) := by rw [hW1, hw]; exact heap_new wr _
      have co0 := cell_of_heap bo 0
      have co2 := cell_of_heap bo 2
      simp at co0 co2
      subst hW1
      have HA1 := Lib.hid (HA.out.keepN HKW.out)
      clear hw bo b0 b1 b2 b3 b4
      go_upto_region 14 with fail
      (try rw [ht])
      clear ht hUt co2
      have HSTR := Lib.hid HA1.out.s.1.st
      go_wp2_with fail
      go_loopw [13] (fun kv wq => ∃ k : Nat, k ≤ n ∧ kv = .int .i64 k ∧ (∀ y ∈ K.take k, y < x) ∧ W1 = wq) (fun kv _ => n - (intOf kv).toNat)
      case atStart => exact ⟨0, Nat.zero_le _, rfl, by simp, rfl⟩
      case round =>
        obtain ⟨k, hkn, rfl, htk, rfl⟩ := hrel
        have HTK := Lib.hid htk
        clear htk
        go_upto_region 15 with fail
        go_cut [73] from 61 to 73 (fun v wx => v = .bool (cL K x k) ∧ W1 = wx)
        case first =>
          by_cases hlt : k < n
          · have hlt2 : (k : Int) < n := by omega
            have hil3 : decide (n ≤ k) = false := by simp; omega
            obtain ⟨g1, rfl, d1, _⟩ := HA1.out.r.at (sv_len HN.out) k (by rw [List.length_map, HN.out]; exact hlt)
            simp only [List.getElem_map, sv] at d1
            have hcl := cL_in (x := x) (by rw [HN.out]; exact hlt : k < K.length)
            generalize K[k]'(by rw [HN.out]; exact hlt) = y at d1 hcl
            by_cases hyx : y < x
            · have hdy : decide (y < x) = true := decide_eq_true hyx
              have HCL : Hid (cL K x k = true) := Lib.hid (by rw [hcl, hdy])
              clear hcl
              go_wp2_with fail
              go_meet
              exact ⟨by rw [HCL.out], rfl⟩
            · have hdy : decide (y < x) = false := decide_eq_false hyx
              have HCL : Hid (cL K x k = false) := Lib.hid (by rw [hcl, hdy])
              clear hcl
              go_wp2_with fail
              go_meet
              exact ⟨by rw [HCL.out], rfl⟩
          · have hlt2 : ¬ (k : Int) < n := by omega
            have hlt3 : decide (k < n) = false := by simp [hlt]
            have HCL : Hid (cL K x k = false) := Lib.hid (cL_out (by rw [HN.out]; omega))
            go_wp2_with fail
            go_meet
            exact ⟨by rw [HCL.out], rfl⟩
        case rest =>
          obtain ⟨rfl, rfl⟩ := hcut
          obtain ⟨bl, hbl⟩ : ∃ b, cL K x k = b := ⟨_, rfl⟩
          rw [hbl]
          cases bl with
          | true =>
            have hk1 := cL_lt hbl
            rw [HN.out] at hk1
            have HTK2 := Lib.hid (take_less HTK.out hbl)
            clear hbl
            go_wp2_with fail
            go_roundw
            case rel => exact ⟨k + 1, by omega, by go_num, HTK2.out, trivial⟩
            case measure => simp [intOf]; omega
          | false =>
            have HBL := Lib.hid hbl
            have HIN : Hid (x ∈ K ↔ ∃ hk : k < K.length, K[k] = x) := Lib.hid (in_at HSTR.out HTK.out hbl)
            clear hbl
            obtain ⟨bin, hbin⟩ : ∃ b, decide (x ∈ K) = b := ⟨_, rfl⟩
            have HBIN := Lib.hid hbin
            clear hbin
            go_upto_region 17 with fail
            go_cut [14] from 76 to 88 (fun v wx => v = .bool bin ∧ W1 = wx)
            case first =>
              by_cases hlt : k < n
              · have hlt2 : (k : Int) < n := by omega
                have hil3 : decide (n ≤ k) = false := by simp; omega
                obtain ⟨g1, rfl, d1, _⟩ := HA1.out.r.at (sv_len HN.out) k (by rw [List.length_map, HN.out]; exact hlt)
                simp only [List.getElem_map, sv] at d1
                have hin := HIN.out
                have hkl : k < K.length := by rw [HN.out]; exact hlt
                obtain ⟨y, hy⟩ : ∃ y, K[k] = y := ⟨_, rfl⟩
                rw [hy] at d1
                by_cases hyx : y = x
                · have hb : bin = true := by rw [← HBIN.out]; exact decide_eq_true (hin.2 ⟨hkl, hy.trans hyx⟩)
                  subst hyx hb
                  clear hin hy
                  go_wp2_with fail
                  go_meet
                  exact ⟨rfl, rfl⟩
                · have hb : bin = false := by rw [← HBIN.out]; exact decide_eq_false (fun e => by obtain ⟨_, e2⟩ := hin.1 e; exact hyx (hy.symm.trans e2))
                  have hne : (y == x) = false := by simp [hyx]
                  subst hb
                  clear hin hy
                  go_wp2_with fail
                  go_meet
                  exact ⟨rfl, rfl⟩
              · have hlt2 : ¬ (k : Int) < n := by omega
                have hlt3 : decide (k < n) = false := by simp [hlt]
                have hb : bin = false := by
                  rw [← HBIN.out]; refine decide_eq_false (fun e => ?_)
                  obtain ⟨hk, _⟩ := HIN.out.1 e
                  rw [HN.out] at hk; exact hlt hk
                subst hb
                go_wp2_with fail
                go_meet
                exact ⟨rfl, rfl⟩
            case rest =>
              obtain ⟨rfl, rfl⟩ := hcut
              go_wp2_with fail
              go_loopw [15, 16] (fun tv jv wq => ∃ (j : Nat), j ≤ n ∧ jv = .int .i64 j ∧ tv = .bool (hasB td K x t j) ∧ W1 = wq) (fun _ jv _ => n - (intOf jv).toNat)
              case atStart => exact ⟨0, Nat.zero_le _, rfl, rfl, rfl⟩
              case round =>
                obtain ⟨j, hj, rfl, rfl, hw⟩ := hrel
                subst hw
                by_cases hlt : j < n
                · have hlt2 : (j : Int) < n := by omega
                  have hlt3 : decide ((j : Int) < n) = true := by simp; omega
                  have hlt4 : decide (n ≤ j) = false := by simp; omega
                  have hjK : j < K.length := by rw [HN.out]; exact hlt
                  obtain ⟨g1, rfl, d1, d2, _⟩ := HA1.out.r.at (sv_len HN.out) j (by rw [List.length_map]; exact hjK)
                  simp only [List.getElem_map, sv] at d1 d2
                  have hnx := hasB_succ td K x t j hjK
                  obtain ⟨y, hy⟩ : ∃ y, K[j] = y := ⟨_, rfl⟩
                  rw [hy] at d1 d2 hnx
                  generalize td y = hv at d2 hnx
                  obtain ⟨b, hb⟩ : ∃ b, hasB td K x t j = b := ⟨_, rfl⟩
                  rw [hb] at hnx ⊢
                  have HNX := Lib.hid hnx
                  clear hnx hy hb
                  cases b
                  · by_cases ht0 : t = 0
                    · subst ht0
                      go_wp2_with fail
                      go_roundw
                      case rel => exact ⟨j + 1, by omega, by go_num, by rw [HNX.out]; simp, trivial⟩
                      case measure => simp [intOf]; omega
                    · have ht1 : ((t : Int) != 0) = true := by simp; omega
                      have HT0 := Lib.hid ht0
                      clear ht0
                      by_cases hev : hv = t
                      · subst hev
                        by_cases hyx : y = x
                        · subst hyx
                          go_wp2_with fail
                          go_roundw
                          case rel => exact ⟨j + 1, by omega, by go_num, by rw [HNX.out]; simp, trivial⟩
                          case measure => simp [intOf]; omega
                        · have hyx2 : (y != x) = true := by simp [hyx]
                          have HYX := Lib.hid hyx
                          clear hyx
                          go_wp2_with fail
                          go_roundw
                          case rel => exact ⟨j + 1, by omega, by go_num, by rw [HNX.out]; simp [HT0.out, HYX.out], trivial⟩
                          case measure => simp [intOf]; omega
                      · have hev1 : (hv == (t : Int)) = false := by simp [hev]
                        have hev2 : decide (hv = (t : Int)) = false := by simp [hev]
                        have HEV := Lib.hid hev
                        clear hev
                        go_wp2_with fail
                        go_roundw
                        case rel => exact ⟨j + 1, by omega, by go_num, by rw [HNX.out]; simp [HEV.out], trivial⟩
                        case measure => simp [intOf]; omega
                  · go_wp2_with fail
                    go_roundw
                    case rel => exact ⟨j + 1, by omega, by go_num, by rw [HNX.out]; simp, trivial⟩
                    case measure => simp [intOf]; omega
                · have hlt2 : ¬ (j : Int) < n := by omega
                  have hlt3 : decide ((j : Int) < n) = false := by simp; omega
                  obtain rfl : j = n := by omega
                  obtain ⟨bh, hbh⟩ : ∃ b, hasB td K x t j = b := ⟨_, rfl⟩
                  rw [hbh]
                  have HBH : Hid (bh = true ↔ Taken K td x t) := Lib.hid (by rw [← hbh]; exact hasB_iff HN.out)
                  clear hlt hbh
                  go_upto_region 23 with fail
                  clear hlt2 hlt3
                  have HIK : Hid (bin = true → ∃ hk : k < K.length, K[k] = x) := Lib.hid fun e => HIN.out.1 (of_decide_eq_true (HBIN.out.trans e))
                  have HIO : Hid (bin = false → x ∉ K) := Lib.hid fun e => of_decide_eq_false (HBIN.out.trans e)
                  have HRT : Hid (∀ y ∈ K, 0 ≤ td y ∧ td y ≤ 3 ∧ 0 ≤ ag y ∧ ag y ≤ ((i + 1 : Nat) : Int)) := Lib.hid fun y hy => by have := HRG.out y hy; omega
                  by_cases hk0 : kd = 0
                  · as_aux_lemma =>
                    subst hk0
                    by_cases hroom : j < 20
                    · have hr1 : decide ((j : Int) < 20) = true := by simp; omega
                      have hno : br * 4294967296 + (made + 1) ∉ K := fun e => by have := HA1.out.s.1.rg _ e; omega
                      have HNO := Lib.hid hno
                      have HOP := Lib.hid (sst_open HA1.out.s (by rw [HN.out]; exact hroom) (by omega) (by omega))
                      obtain ⟨ID, hID⟩ : ∃ ID, br * 4294967296 + (made + 1) = ID := ⟨_, rfl⟩
                      have HMK := Lib.hid (make_is br (made + 1) hbr1 (by omega))
                      have HMA := Lib.hid (fun W => rmake_any br (made + 1) W (by omega) (by omega))
                      rw [hID] at HNO HOP HMK
                      clear hID hno
                      go_wp2_with fail
                      refine HOP.out.mono ?_
                      rintro e w3 ⟨rfl, h3, k3⟩
                      have HS3 := Lib.hid h3; have HR3 := Lib.hid (HA1.out.r.keep k3)
                      clear h3 k3 co0
                      go_wp2_with fail
                      refine (HMA.out _).mono ?_
                      rintro e w' ⟨rfl, hw⟩
                      obtain rfl : w3 = w' := hw.symm
                      rw [HMK.out]
                      have HRO3 : Hid (w3.ownsRow 0 63 3 (.slice ao j cp) j ((K.map (sv td ag)).flatMap sC)) := Lib.hid (by obtain ⟨ao', cp', e, _, _, h1⟩ := HR3.out.slice (sv_len HN.out); cases e; exact h1)
                      go_wp2_with (at_builtin; refine wpList_app 61 61 63 (.agg #[.int .i64 0, .int .i64 0, .int .i64 0]) 3 24 Tryz.underlying61 infoS rfl (by decide) (by decide) rfl rfl rfl rfl (HRO3.out.alloc _) (src_oneK (x := SV.mk ID 0 0) sC_one sC_len Tryz.underlying61 (heap_new w3 _) rfl 1) (by omega) ?_)
                      intro a5 c5 w5 hown hgr hfr
                      have hkw : Keep (fun k => (Value.slice ao j cp).ownBlock = some k) w3 w5 := (((Keep.refl NoF w3).alloc _).mono (fun _ _ f => f.elim)).grown hgr (fun k _ e => e)
                      have HNX : Hid (SB w w5 p mb tp tm br (i + 1) (.slice a5 (j + 1) c5) (.int .i64 (made + 1))) := by
                        have hl5 : ((K ++ [ID]).map (sv (tdUp td ID 0) (agUp ag ID))).length = j + 1 := by rw [List.length_map, List.length_append, HN.out]; rfl
                        have hlt3 := HS3.out.1.lt
                        have hks3 := HS3.out.kp.size
                        have hlo3 : ∀ g, (Value.slice ao j cp).ownBlock = some g → w.heap.size ≤ g := by obtain ⟨⟨_, _, e, _, h2⟩, _⟩ := HR3.out; exact h2
                        have hs3 : (w3.alloc (.cells #[.int .i64 ID, .int .i64 0, .int .i64 0] 63 (0, 0))).heap.size = w3.heap.size + 1 := by simp
                        refine Lib.hid ⟨nb + 1, made + 1, K ++ [ID], _, _, rfl, by omega, by omega, by omega, by rw [List.length_append, HN.out]; exact hroom, fun y hy => ?_, HS3.out.keep hkw hlo3 ⟨fun e => (HR3.out.2 _ e).1 rfl, fun e => (HR3.out.2 _ e).2.1 rfl, fun e => (HR3.out.2 _ e).2.2.1 rfl, fun e => (HR3.out.2 _ e).2.2.2 rfl⟩, ⟨a5, c5, by rw [hl5], by unfold OwnV; rw [hl5, ← map_new HNO.out, List.flatMap_append]; exact hown, fun g hg => ?_⟩, fun g hg => ?_⟩
                        · unfold tdUp agUp
                          by_cases e : y = ID
                          · simp [e]; omega
                          · have := HRT.out y ((List.mem_append.1 hy).resolve_right (fun h => e (List.mem_singleton.1 h)))
                            simp only [e, if_false]; exact this
                        · rcases hfr with f | f
                          · rw [f] at hg; exact hlo3 g hg
                          · rw [f] at hg; injection hg with hg; omega
                        · rcases hfr with f | f
                          · rw [f] at hg; exact HR3.out.2 g hg
                          · rw [f] at hg; injection hg with hg; omega
                      clear hown hgr hfr hkw HRO3
                      go_wp2_with fail
                      go_roundw
                      case rel => exact ⟨i + 1, by omega, by go_num, HNX.out⟩
                      case measure => simp [intOf]; omega
                    · have hr1 : decide ((j : Int) < 20) = false := by simp; omega
                      have HOP := Lib.hid (sopen_full HA1.out.s.1 (by rw [HN.out]; omega))
                      have HNX : Hid (SB w W1 p mb tp tm br (i + 1) (.slice ao j cp) (.int .i64 made)) := Lib.hid ⟨nb, made, K, td, ag, rfl, by omega, hm0, by omega, by rw [HN.out]; exact hK20, HRT.out, HA1.out⟩
                      go_wp2_with fail
                      refine HOP.out.mono ?_
                      rintro e w' ⟨rfl, hw⟩
                      obtain rfl : W1 = w' := hw.symm
                      go_wp2_with fail
                      go_roundw
                      case rel => exact ⟨i + 1, by omega, by go_num, HNX.out⟩
                      case measure => simp [intOf]; omega
                  · have hd0 : (kd == 0) = false := by simp [hk0]
                    by_cases hk1 : kd = 1
                    · as_aux_lemma =>
                      subst hk1
                      clear hk0 hd0
                      cases bin
                      · have HT := Lib.hid (stouch_no HA1.out.s.1 x HX.out (HIO.out rfl))
                        have HNX : Hid (SB w W1 p mb tp tm br (i + 1) (.slice ao j cp) (.int .i64 made)) := Lib.hid ⟨nb, made, K, td, ag, rfl, by omega, hm0, by omega, by rw [HN.out]; exact hK20, HRT.out, HA1.out⟩
                        go_wp2_with fail
                        refine HT.out.mono ?_
                        rintro e w' ⟨rfl, hw⟩
                        obtain rfl : W1 = w' := hw.symm
                        go_wp2_with fail
                        go_roundw
                        case rel => exact ⟨i + 1, by omega, by go_num, HNX.out⟩
                        case measure => simp [intOf]; omega
                      · obtain ⟨hkK, hKx⟩ := HIK.out rfl
                        have hkn2 : k < j := by rw [← HN.out]; exact hkK
                        have hkn3 : (k : Int) < j := by omega
                        have hkn4 : decide (j ≤ k) = false := by simp; omega
                        have hxK : x ∈ K := by rw [← hKx]; exact List.getElem_mem _
                        have HXK := Lib.hid hxK; have HKX := Lib.hid hKx
                        have HT := Lib.hid (sst_touch HA1.out.s x HX.out hxK (by omega))
                        clear hxK hKx
                        go_wp2_with fail
                        refine HT.out.mono ?_
                        rintro e w3 ⟨rfl, h3, k3⟩
                        have HS3 := Lib.hid h3; have HR3 := Lib.hid (HA1.out.r.keep k3)
                        clear h3 k3 co0
                        obtain ⟨g, rfl, f1, hr3, hk3, hg3⟩ := HR3.out.store (sv_len HN.out) k 2 (by rw [List.length_map]; exact hkK) (by omega) (sv td (agUp ag x) x) (.int .i64 0) (by rw [List.getElem_map, HKX.out]; unfold sv sC agUp; simp)
                        obtain ⟨_, rfl_, _, _, cz⟩ := HR3.out.at (sv_len HN.out) k (by rw [List.length_map]; exact hkK)
                        cases rfl_
                        have HNX : Hid (SB w (w3.setCell ⟨g, k * 3 + 2, none⟩ (.int .i64 0)) p mb tp tm br (i + 1) (.slice (some ⟨g, 0, none⟩) j cp) (.int .i64 made)) := by
                          have e : (K.map (sv td ag)).set k (sv td (agUp ag x) x) = K.map (sv td (agUp ag x)) := by
                            have := setMapG (f := sv td ag) (f' := sv td (agUp ag x)) HSTR.out hkK (fun y _ hne => by rw [HKX.out] at hne; unfold sv agUp; simp [hne])
                            rw [HKX.out] at this; exact this
                          rw [e] at hr3
                          refine Lib.hid ⟨nb + 1, made, K, td, _, rfl, by omega, hm0, by omega, by rw [HN.out]; exact hK20, fun y hy => ?_, HS3.out.keep hk3 (fun q e => by rw [e]; exact hg3.1) ⟨fun e => hg3.2.1 e.symm, fun e => hg3.2.2.1 e.symm, fun e => hg3.2.2.2.1 e.symm, fun e => hg3.2.2.2.2 e.symm⟩, hr3⟩
                          have := HRT.out y hy
                          unfold agUp
                          split <;> omega
                        clear hr3 hk3 hg3
                        go_wp2_with fail
                        go_roundw
                        case rel => exact ⟨i + 1, by omega, by go_num, HNX.out⟩
                        case measure => simp [intOf]; omega
                    · have hd1 : (kd == 1) = false := by simp [hk1]
                      by_cases hk2 : kd = 2
                      · as_aux_lemma =>
                        subst hk2
                        clear hk0 hd0 hk1 hd1
                        have hti : KI (t : Int) := ki_small (by omega)
                        have HTI := Lib.hid hti
                        clear hti
                        cases bin
                        · have HT := Lib.hid (sst_unbound HA1.out.s x (t : Int) HX.out (.inr (HIO.out rfl)))
                          go_wp2_with fail
                          refine HT.out.mono ?_
                          rintro e w3 ⟨rfl, _, k3⟩
                          have HNX : Hid (SB w w3 p mb tp tm br (i + 1) (.slice ao j cp) (.int .i64 made)) := Lib.hid ⟨nb, made, K, td, ag, rfl, by omega, hm0, by omega, by rw [HN.out]; exact hK20, HRT.out, HA1.out.keepN k3⟩
                          clear k3 co0
                          go_wp2_with fail
                          go_roundw
                          case rel => exact ⟨i + 1, by omega, by go_num, HNX.out⟩
                          case measure => simp [intOf]; omega
                        · cases bh
                          · obtain ⟨hkK, hKx⟩ := HIK.out rfl
                            have hkn2 : k < j := by rw [← HN.out]; exact hkK
                            have hkn3 : (k : Int) < j := by omega
                            have hkn4 : decide (j ≤ k) = false := by simp; omega
                            have hxK : x ∈ K := by rw [← hKx]; exact List.getElem_mem _
                            have HXK := Lib.hid hxK; have HKX := Lib.hid hKx
                            have HT := Lib.hid (sst_bind HA1.out.s x (t : Int) HX.out HTI.out (fun e => by have := HBH.out.2 e; cases this) hxK (by omega))
                            clear hxK hKx
                            go_wp2_with fail
                            refine HT.out.mono ?_
                            rintro e w3 ⟨rfl, h3, k3⟩
                            have HS3 := Lib.hid h3; have HR3 := Lib.hid (HA1.out.r.keep k3)
                            clear h3 k3 co0
                            obtain ⟨g, rfl, f1, hr3, hk3, hg3⟩ := HR3.out.store (sv_len HN.out) k 1 (by rw [List.length_map]; exact hkK) (by omega) ⟨x, t, ag x⟩ (.int .i64 (t : Int)) (by rw [List.getElem_map, HKX.out]; unfold sv sC; simp)
                            obtain ⟨_, rfl_, _, cy, cz⟩ := HR3.out.at (sv_len HN.out) k (by rw [List.length_map]; exact hkK)
                            cases rfl_
                            obtain ⟨g2, e2, f2, hr4, hk4, _⟩ := hr3.store (by rw [List.length_set]; exact sv_len HN.out) k 2 (by rw [List.length_set, List.length_map]; exact hkK) (by omega) ⟨x, t, 0⟩ (.int .i64 0) (by rw [List.getElem_set_self]; unfold sC; simp)
                            cases e2
                            have f3 : w3.frozen? ⟨g, k * 3 + 2, none⟩ = false := by
                              have := f2
                              simpa using this
                            have HNX : Hid (SB w ((w3.setCell ⟨g, k * 3 + 1, none⟩ (.int .i64 (t : Int))).setCell ⟨g, k * 3 + 2, none⟩ (.int .i64 0)) p mb tp tm br (i + 1) (.slice (some ⟨g, 0, none⟩) j cp) (.int .i64 made)) := by
                              have e : ((K.map (sv td ag)).set k ⟨x, t, ag x⟩).set k ⟨x, t, 0⟩ = K.map (sv (tdUp td x t) (agUp ag x)) := by
                                rw [List.set_set]
                                have := setMapG (f := sv td ag) (f' := sv (tdUp td x t) (agUp ag x)) HSTR.out hkK (fun y _ hne => by rw [HKX.out] at hne; unfold sv tdUp agUp; simp [hne])
                                rw [HKX.out] at this
                                rw [← this]; unfold sv tdUp agUp; simp
                              rw [e] at hr4
                              refine Lib.hid ⟨nb + 2, made, K, _, _, rfl, by omega, hm0, by omega, by rw [HN.out]; exact hK20, fun y hy => ?_, HS3.out.keep (hk3.trans' hk4) (fun q e => by rw [e]; exact hg3.1) ⟨fun e => hg3.2.1 e.symm, fun e => hg3.2.2.1 e.symm, fun e => hg3.2.2.2.1 e.symm, fun e => hg3.2.2.2.2 e.symm⟩, hr4⟩
                              have := HRT.out y hy
                              unfold tdUp agUp
                              split <;> omega
                            clear hr3 hk3 hg3 hr4 hk4 f2
                            go_wp2_with fail
                            go_roundw
                            case rel => exact ⟨i + 1, by omega, by go_num, HNX.out⟩
                            case measure => simp [intOf]; omega
                          · have HT := Lib.hid (sst_unbound HA1.out.s x (t : Int) HX.out (.inl (HBH.out.1 rfl)))
                            go_wp2_with fail
                            refine HT.out.mono ?_
                            rintro e w3 ⟨rfl, _, k3⟩
                            have HNX : Hid (SB w w3 p mb tp tm br (i + 1) (.slice ao j cp) (.int .i64 made)) := Lib.hid ⟨nb, made, K, td, ag, rfl, by omega, hm0, by omega, by rw [HN.out]; exact hK20, HRT.out, HA1.out.keepN k3⟩
                            clear k3 co0
                            go_wp2_with fail
                            go_roundw
                            case rel => exact ⟨i + 1, by omega, by go_num, HNX.out⟩
                            case measure => simp [intOf]; omega
                      · have hd2 : (kd == 2) = false := by simp [hk2]
                        by_cases hk3 : kd = 3
                        · as_aux_lemma =>
                          subst hk3
                          clear hk0 hd0 hk1 hd1 hk2 hd2
                          cases bin
                          · have HT := Lib.hid (sclose_no HA1.out.s.1 x HX.out (HIO.out rfl))
                            have HNX : Hid (SB w W1 p mb tp tm br (i + 1) (.slice ao j cp) (.int .i64 made)) := Lib.hid ⟨nb, made, K, td, ag, rfl, by omega, hm0, by omega, by rw [HN.out]; exact hK20, HRT.out, HA1.out⟩
                            go_wp2_with fail
                            refine HT.out.mono ?_
                            rintro e w' ⟨rfl, hw⟩
                            obtain rfl : W1 = w' := hw.symm
                            go_wp2_with fail
                            go_roundw
                            case rel => exact ⟨i + 1, by omega, by go_num, HNX.out⟩
                            case measure => simp [intOf]; omega
                          · obtain ⟨hkK, hKx⟩ := HIK.out rfl
                            have hkn2 : k < j := by rw [← HN.out]; exact hkK
                            have hkn3 : (k : Int) < j := by omega
                            have hkn4 : decide (j ≤ k) = false := by simp; omega
                            have hxK : x ∈ K := by rw [← hKx]; exact List.getElem_mem _
                            have HXK := Lib.hid hxK; have HKX := Lib.hid hKx
                            have HT := Lib.hid (sst_close HA1.out.s x HX.out hxK)
                            have HZF : Hid (K.filter (fun z => decide (z ≠ x)) = K.eraseIdx k) := Lib.hid (by have := filt_erase HSTR.out hkK; rw [hKx] at this; exact this)
                            clear hxK hKx
                            obtain ⟨tx, htx⟩ : ∃ tx, td x = tx := ⟨_, rfl⟩
                            rw [htx] at HT
                            go_wp2_with fail
                            refine HT.out.mono ?_
                            rintro e w6 ⟨rfl, h3, k3⟩
                            rw [HZF.out] at h3
                            have HS6 := Lib.hid h3; have HR6 := Lib.hid (HA1.out.r.keep k3)
                            obtain ⟨g, rfl, _, cy, _⟩ := HR6.out.at (sv_len HN.out) k (by rw [List.length_map]; exact hkK)
                            rw [List.getElem_map, HKX.out] at cy
                            simp only [sv, htx] at cy
                            clear h3 k3 co0 htx
                            have HRK : Hid (w6.ownsRow 0 63 3 (.slice (some ⟨g, 0, none⟩) j cp) j ((K.map (sv td ag)).flatMap sC)) := Lib.hid (by obtain ⟨ao', cp', e, _, _, h1⟩ := HR6.out.slice (sv_len HN.out); cases e; exact h1)
                            have hcpb := row_cap HRK.out
                            unfold maxLen at hcpb
                            go_upto_region 58 with fail
                            clear cy
                            have K0 := Lib.hid ((Keep.refl NoF w6).drew)
                            have SRC1 : Hid (∀ W, Keep NoF w6 W → Src Tryz.prog 3 61 (.slice (some ⟨g, 0, none⟩) k cp) k (((K.map (sv td ag)).take k).flatMap sC) W) := Lib.hid fun W hW => src_upto sC_len sC_one Tryz.underlying61 (row_keep HRK.out hW (fun _ _ f => f)) (sv_len HN.out) k (by omega) cp
                            have SRC2 : Hid (∀ W, Keep NoF w6 W → Src Tryz.prog 3 61 (.slice (fromA (some ⟨g, 0, none⟩) (k + 1) cp 3) (j - (k + 1)) (cp - (k + 1))) (j - (k + 1)) (((K.map (sv td ag)).drop (k + 1)).flatMap sC) W) := Lib.hid fun W hW => src_from sC_len sC_one Tryz.underlying61 (row_keep HRK.out hW (fun _ _ f => f)) (sv_len HN.out) (k + 1) (by omega) (cp - (k + 1))
                            have HHI := Lib.hid (fun W => run_upto (P := Tryz.prog) Tryz.underlying61 infoS (some ⟨g, 0, none⟩) j cp k (by omega) W)
                            have hlo := fun W => run_from (P := Tryz.prog) Tryz.underlying61 infoS (some ⟨g, 0, none⟩) j cp (k + 1) (by omega) W
                            rw [show ((k + 1 : Nat) : Int) = (k : Int) + 1 by omega] at hlo
                            have HLO := Lib.hid hlo
                            clear hlo
                            have hsum : IntKind.i64.wrap ((k : Int) + 1) = (k : Int) + 1 := IntWalk.i64_in _ (by omega)
                            refine wp_region_noPanic ?_
                            refine wp_region_held_drew (S := (fun _ : World => True)) (by kernel_rfl) (trivial) (fun hHeld => ?_)
                            refine wpAnyH_take (i := 0) (oi := ?oR0) (v := ?vR0) ?hiR0 (by kernel_rfl) (by kernel_rfl) (by kernel_rfl) (fun _ _ _ h => h) (Or.inl ⟨?wR0, ?yR0⟩) (by assumption) ?rR0
                            case hiR0 => (simp only [List.getElem?_toArray, List.getElem?_cons_zero]; try rfl)
                            case wR0 => rfl
                            case yR0 => (intro w hSw; (try dsimp only at hSw); go_simp; (try with_reducible rfl))
                            (try simp only [Act.put, List.setIfInBounds_toArray, List.set_cons_zero, List.set_cons_succ])
                            refine wpAnyH_take (i := 1) (oi := ?oR1) (v := ?vR1) ?hiR1 (by kernel_rfl) (by kernel_rfl) (by kernel_rfl) (fun _ _ _ h => h) (Or.inl ⟨?wR1, ?yR1⟩) (by assumption) ?rR1
                            case hiR1 => (simp only [List.getElem?_toArray, List.getElem?_cons_succ, List.getElem?_cons_zero]; try rfl)
                            case wR1 => rfl
                            case yR1 => (intro w hSw; (try dsimp only at hSw); go_simp; (try with_reducible rfl))
                            (try simp only [Act.put, List.setIfInBounds_toArray, List.set_cons_zero, List.set_cons_succ])
                            refine wpAnyH_take (i := 2) (oi := ?oR2) (v := .slice (some ⟨g, 0, none⟩) k cp) ?hiR2 (by kernel_rfl) (by kernel_rfl) (by kernel_rfl) (fun _ _ _ h => h) (Or.inl ⟨?wR2, ?yR2⟩) (by assumption) ?rR2
                            case hiR2 => (simp only [List.getElem?_toArray, List.getElem?_cons_succ, List.getElem?_cons_zero]; try rfl)
                            case wR2 => rfl
                            case yR2 => (intro w hSw; exact slice_yields rfl (HHI.out w))
                            (try simp only [Act.put, List.setIfInBounds_toArray, List.set_cons_zero, List.set_cons_succ])
                            refine wpAnyH_take (i := 4) (oi := ?oR4) (v := ?vR4) ?hiR4 (by kernel_rfl) (by kernel_rfl) (by kernel_rfl) (fun _ _ _ h => h) (Or.inl ⟨?wR4, ?yR4⟩) (by assumption) ?rR4
                            case hiR4 => (simp only [List.getElem?_toArray, List.getElem?_cons_succ, List.getElem?_cons_zero]; try rfl)
                            case wR4 => rfl
                            case yR4 => (intro w hSw; (try dsimp only at hSw); go_simp; (try with_reducible rfl))
                            (try simp only [Act.put, List.setIfInBounds_toArray, List.set_cons_zero, List.set_cons_succ])
                            refine wpAnyH_take (i := 5) (oi := ?oR5) (v := ?vR5) ?hiR5 (by kernel_rfl) (by kernel_rfl) (by kernel_rfl) (fun _ _ _ h => h) (Or.inl ⟨?wR5, ?yR5⟩) (by assumption) ?rR5
                            case hiR5 => (simp only [List.getElem?_toArray, List.getElem?_cons_succ, List.getElem?_cons_zero]; try rfl)
                            case wR5 => rfl
                            case yR5 => (intro w hSw; (try dsimp only at hSw); go_simp; (try with_reducible rfl))
                            (try simp only [Act.put, List.setIfInBounds_toArray, List.set_cons_zero, List.set_cons_succ])
                            refine wpAnyH_take (i := 6) (oi := ?oR6) (v := ?vR6) ?hiR6 (by kernel_rfl) (by kernel_rfl) (by kernel_rfl) (fun _ _ _ h => h) (Or.inl ⟨?wR6, ?yR6⟩) (by assumption) ?rR6
                            case hiR6 => (simp only [List.getElem?_toArray, List.getElem?_cons_succ, List.getElem?_cons_zero]; try rfl)
                            case wR6 => rfl
                            case yR6 => (intro w hSw; (try dsimp only at hSw); go_simp; (try with_reducible rfl))
                            (try simp only [Act.put, List.setIfInBounds_toArray, List.set_cons_zero, List.set_cons_succ])
                            refine wpAnyH_take (i := 7) (oi := ?oR7) (v := .slice (fromA (some ⟨g, 0, none⟩) (k + 1) cp 3) (j - (k + 1)) (cp - (k + 1))) ?hiR7 (by kernel_rfl) (by kernel_rfl) (by kernel_rfl) (fun _ _ _ h => h) (Or.inl ⟨?wR7, ?yR7⟩) (by assumption) ?rR7
                            case hiR7 => (simp only [List.getElem?_toArray, List.getElem?_cons_succ, List.getElem?_cons_zero]; try rfl)
                            case wR7 => rfl
                            case yR7 => (intro w hSw; exact slice_yields rfl (HLO.out w))
                            (try simp only [Act.put, List.setIfInBounds_toArray, List.set_cons_zero, List.set_cons_succ])
                            refine wpAnyH_ready (rs := [3]) (by kernel_rfl) (by simp) ?_
                            refine (AllReadyH.cons (o := ?oR3) ?hiR3 (fun K hK => ?_) AllReadyH.nil)
                            case hiR3 => (simp only [List.getElem?_toArray, List.getElem?_cons_succ, List.getElem?_cons_zero]; try rfl)
                            refine step_app 61 61 63 (.agg #[.int .i64 0, .int .i64 0, .int .i64 0]) 3 24 Tryz.underlying61 infoS rfl (by decide) (by decide) rfl rfl rfl rfl (v := .slice none 0 0) (sv := (.slice (some ⟨g, 0, none⟩) k cp)) (World.ownsRow_nil _ _ _ _) (SRC1.out _ (K0.out)) (by omega) ?_
                            intro a1 c1 W1' hown1 hgr1 hfr1
                            simp only [Nat.zero_add, List.nil_append] at hown1 hgr1 hfr1 ⊢
                            have kA : Keep NoF w6 W1' := (K0.out).grown hgr1 (fun k _ e => by cases e)
                            have fr1 : ∀ b, (Value.slice a1 k c1).ownBlock = some b → w6.heap.size ≤ b := fun b hk => by
                              rcases hfr1 with f | f
                              · rw [f] at hk; cases hk
                              · rw [f] at hk; injection hk with hk; exact Nat.le_trans (K0.out).size (Nat.le_of_eq hk)
                            refine hK.out _ _ (trivial) (fun hHeld => ?_)
                            clear hK K
                            (try simp only [Act.put, List.setIfInBounds_toArray, List.set_cons_zero, List.set_cons_succ])
                            refine wpAnyH_ready (rs := [8]) (by kernel_rfl) (by simp) ?_
                            refine (AllReadyH.cons (o := ?oR8) ?hiR8 (fun K hK => ?_) AllReadyH.nil)
                            case hiR8 => (simp only [List.getElem?_toArray, List.getElem?_cons_succ, List.getElem?_cons_zero]; try rfl)
                            refine step_app 61 61 63 (.agg #[.int .i64 0, .int .i64 0, .int .i64 0]) 3 24 Tryz.underlying61 infoS rfl (by decide) (by decide) rfl rfl rfl rfl (v := .slice a1 k c1) (sv := (.slice (fromA (some ⟨g, 0, none⟩) (k + 1) cp 3) (j - (k + 1)) (cp - (k + 1)))) (hown1) (SRC2.out _ kA) (by omega) ?_
                            intro a3 c3 W3 hown3 hgr3 hfr3
                            have kB : Keep NoF w6 W3 := kA.grown hgr3 (fun b hk e => by have := fr1 b e; omega)
                            have fr3 : ∀ b, (Value.slice a3 (k + (j - (k + 1))) c3).ownBlock = some b → w6.heap.size ≤ b := fun b hk => by
                              rcases hfr3 with f | f
                              · rw [f] at hk; exact fr1 b hk
                              · rw [f] at hk; injection hk with hk; exact Nat.le_trans (kA).size (Nat.le_of_eq hk)
                            refine hK.out _ _ (trivial) (fun hHeld => ?_)
                            clear hK K
                            (try simp only [Act.put, List.setIfInBounds_toArray, List.set_cons_zero, List.set_cons_succ])
                            refine wpAnyH_take (i := 9) (oi := ?oR9) (v := ?vR9) ?hiR9 (by kernel_rfl) (by kernel_rfl) (by kernel_rfl) (fun _ _ _ h => h) (Or.inl ⟨?wR9, ?yR9⟩) (by assumption) ?rR9
                            case hiR9 => (simp only [List.getElem?_toArray, List.getElem?_cons_succ, List.getElem?_cons_zero]; try rfl)
                            case wR9 => rfl
                            case yR9 => (intro w hSw; (try dsimp only at hSw); go_simp; (try with_reducible rfl))
                            (try simp only [Act.put, List.setIfInBounds_toArray, List.set_cons_zero, List.set_cons_succ])
                            refine wpAnyH_done (by kernel_rfl) ?_ _
                            refine NoPanic.normal ?_
                            have e1 : k + (j - (k + 1)) = j - 1 := by omega
                            have e2 : (K.eraseIdx k).length = j - 1 := by rw [List.length_eraseIdx_of_lt (by rw [HN.out]; exact hkn2), HN.out]
                            rw [e1] at hown3 fr3 ⊢
                            have e3 : (((K.map (sv td ag)).take k).flatMap sC ++ ((K.map (sv td ag)).drop (k + 1)).flatMap sC) = ((K.eraseIdx k).map (sv td ag)).flatMap sC := by rw [List.eraseIdx_eq_take_drop_succ, List.map_append, List.flatMap_append, List.map_take, List.map_drop]
                            rw [e3] at hown3
                            have HNX : Hid (SB w W3 p mb tp tm br (i + 1) (.slice a3 (j - 1) c3) (.int .i64 made)) := Lib.hid ⟨nb, made, K.eraseIdx k, td, ag, rfl, by omega, hm0, by omega, by rw [e2]; omega, fun y hy => HRT.out y (List.mem_of_mem_eraseIdx hy), HS6.out.keepN kB, RowV.new hown3 (sv_len e2) fr3 HS6.out⟩
                            clear hown1 hgr1 hfr1 fr1 hown3 hgr3 hfr3 fr3 kA kB e1 e2 e3
                            go_wp2_with fail
                            go_roundw
                            case rel => exact ⟨i + 1, by omega, by go_num, HNX.out⟩
                            case measure => simp [intOf]; omega
                        · as_aux_lemma =>
                          have hd3 : (kd == 3) = false := by simp [hk3]
                          clear hk0 hk1 hk2 hk3
                          obtain ⟨old, hold⟩ : ∃ old, (fun x => decide (6 ≤ ag x + 1)) = old := ⟨_, rfl⟩
                          have HOLD := Lib.hid hold
                          clear hold
                          go_upto_region 25 with fail
                          clear hd0 hd1 hd2 hd3 co0
                          go_wp2_with fail
                          go_loopw [21, 122] (fun ov jv wr => ∃ (m : Nat), m ≤ j ∧ jv = .int .i64 m ∧ TK w W1 wr p mb tp tm nb br made K td ag old (.slice ao j cp) ov m) (fun _ jv _ => j - (intOf jv).toNat)
                          case atStart =>
                            refine ⟨0, Nat.zero_le _, rfl, RowP.nil, HA1.out.s, by rw [midS_zero]; exact HA1.out.r, ?_, Nat.le_refl _⟩
                            obtain ⟨⟨_, _, e, h1, _⟩, _⟩ := HA1.out.r
                            exact row_lt h1
                          case round =>
                            obtain ⟨m, hm, rfl, hO, hS, hR, hg, hks⟩ := hrel
                            obtain ⟨M, hM⟩ : ∃ M, ((K.take m).filter old).length = M := ⟨_, rfl⟩
                            have hMl : M ≤ m := by rw [← hM]; exact Nat.le_trans (List.length_filter_le _ _) (List.length_take_le _ _)
                            obtain ⟨oo, oc, rfl, hoc1, hoc2, hro⟩ := hO.slice hM
                            have HO := Lib.hid hO; have HS := Lib.hid hS; have HR := Lib.hid hR; have HG := Lib.hid hg; have HKS := Lib.hid hks; have HW1 := Lib.hid HA1.out.s.kp.size; have HM := Lib.hid hM
                            clear hO hS hR hg hM hro hks
                            by_cases hlt : m < j
                            · have hlt2 : (m : Int) < j := by omega
                              have hlt3 : decide ((m : Int) < j) = true := by simp; omega
                              have hlt4 : decide (j ≤ m) = false := by simp; omega
                              have hmK : m < K.length := by rw [HN.out]; exact hlt
                              obtain ⟨g, rfl, _, _, c2⟩ := HR.out.at (midS_len td ag K m HN.out) m (by rw [midS_len td ag K m HN.out]; exact hlt)
                              rw [midS_get td ag K m hmK] at c2
                              simp only [sv] at c2
                              have hrg2 := HRT.out _ (List.getElem_mem hmK)
                              obtain ⟨g2, e2, f1, hr3, hk3, hg3⟩ := HR.out.store (midS_len td ag K m HN.out) m 2 (by rw [midS_len td ag K m HN.out]; exact hlt) (by omega) (sv td (fun z => ag z + 1) K[m]) (.int .i64 (ag K[m] + 1)) (by rw [midS_get td ag K m hmK]; unfold sv sC; simp)
                              cases e2
                              rw [midS_set td ag K m hmK] at hr3
                              obtain ⟨g3, e3, d0, _, d2⟩ := hr3.at (midS_len td ag K (m + 1) HN.out) m (by rw [midS_len td ag K (m + 1) HN.out]; exact hlt)
                              cases e3
                              rw [midS_get2 td ag K m hmK] at d0 d2
                              simp only [sv] at d0 d2
                              have htk : K.take (m + 1) = K.take m ++ [K[m]] := List.take_succ_eq_append_getElem hmK
                              have hold : old K[m] = decide (6 ≤ ag K[m] + 1) := by rw [← HOLD.out]
                              have hO3 := HO.out.keep hk3 (fun q hq e => by have h1 := HO.out.lo q hq; have h2 := HG.out g rfl; rw [e] at h1; omega)
                              have hS3 := HS.out.keep hk3 (fun q e => by rw [e]; exact hg3.1) ⟨fun e => hg3.2.1 e.symm, fun e => hg3.2.2.1 e.symm, fun e => hg3.2.2.2.1 e.symm, fun e => hg3.2.2.2.2 e.symm⟩
                              have hsz := hk3.size
                              obtain ⟨y, hy⟩ : ∃ y, K[m] = y := ⟨_, rfl⟩
                              rw [hy] at c2 hrg2 hr3 d0 d2 htk hold hO3 hS3 hsz hk3
                              obtain ⟨a9, ha9⟩ : ∃ a9, ag y = a9 := ⟨_, rfl⟩
                              rw [ha9] at c2 hrg2 hr3 d0 d2 hold hO3 hS3 hsz hk3
                              have HO3 := Lib.hid hO3; have HS3 := Lib.hid hS3; have HR3 := Lib.hid hr3; have HTK4 := Lib.hid htk; have HOD := Lib.hid hold; have HK3 := Lib.hid hk3; have HD0 := Lib.hid d0; have HD2 := Lib.hid d2
                              have ha1 : 0 ≤ a9 := by omega
                              have ha2 : a9 ≤ 100 := by omega
                              clear hr3 hk3 hg3 htk hold hO3 hS3 hy ha9 hrg2 d0 d2 hsz
                              go_upto_region 29 with fail
                              obtain ⟨w9, hw9⟩ : ∃ W, wr.setCell ⟨g, m * 3 + 2, none⟩ (.int .i64 (a9 + 1)) = W := ⟨_, rfl⟩
                              rw [hw9] at HO3 HS3 HR3 HK3 HD0 HD2 ⊢
                              clear hw9 c2 f1
                              have d0 := HD0.out; have d2 := HD2.out
                              by_cases h6 : 6 ≤ a9 + 1
                              · have h61 : decide (6 ≤ a9 + 1) = true := by simp [h6]
                                have HOY : Hid ((K.take (m + 1)).filter old = (K.take m).filter old ++ [y]) := Lib.hid (by rw [HTK4.out, List.filter_append]; simp [HOD.out, h6])
                                have HRO : Hid (w9.ownsRow 0 2 1 (.slice oo M oc) M (((K.take m).filter old).flatMap iC)) := Lib.hid (by obtain ⟨_, _, e, _, _, h1⟩ := HO3.out.slice HM.out; cases e; exact h1)
                                go_wp2_with (at_builtin; refine wpList_app 45 45 2 (.int .i64 0) 1 8 Tryz.underlying45 infoL rfl (by decide) (by decide) rfl rfl rfl rfl (HRO.out.alloc _) (src_oneK (x := y) iC_one iC_len Tryz.underlying45 (heap_new w9 _) rfl 1) (by omega) ?_)
                                intro a5 c5 w5 hown hgr hfr
                                have hkw : Keep (fun k => (Value.slice oo M oc).ownBlock = some k) w9 w5 := (((Keep.refl NoF w9).alloc _).mono (fun _ _ f => f.elim)).grown hgr (fun k _ e => e)
                                have HNX : Hid (TK w W1 w5 p mb tp tm nb br made K td ag old (.slice (some ⟨g, 0, none⟩) j cp) (.slice a5 (M + 1) c5) (m + 1)) := by
                                  have hlo := HO3.out.lo
                                  have hs3 : (w9.alloc (.cells #[.int .i64 y] 2 (0, 0))).heap.size = w9.heap.size + 1 := by simp
                                  have hlA := HA1.out.s.1.lt
                                  have hk9 : W1.heap.size ≤ w9.heap.size := Nat.le_trans HKS.out HK3.out.size
                                  have e1 : ((K.take (m + 1)).filter old).length = M + 1 := by rw [HOY.out, List.length_append, HM.out]; rfl
                                  have hks := HS3.out.kp.size
                                  refine Lib.hid ⟨⟨a5, c5, by rw [e1], by rw [e1, HOY.out, List.flatMap_append]; exact hown, fun q hq => ?_⟩, HS3.out.keep hkw (fun q hq => Nat.le_trans HW1.out (hlo q hq)) ⟨fun e => by have := hlo _ e; omega, fun e => by have := hlo _ e; omega, fun e => by have := hlo _ e; omega, fun e => by have := hlo _ e; omega⟩, HR3.out.keepH hkw (fun q hq e => by have := hlo _ e; have := HG.out q hq; omega), HG.out, Nat.le_trans hk9 hkw.size⟩
                                  rcases hfr with f | f
                                  · rw [f] at hq; exact hlo q hq
                                  · rw [f] at hq; injection hq with hq; omega
                                clear hown hgr hfr hkw HRO
                                go_wp2_with fail
                                go_roundw
                                case rel => exact ⟨m + 1, by omega, by go_num, HNX.out⟩
                                case measure => simp [intOf]; omega
                              · have h61 : decide (6 ≤ a9 + 1) = false := by simp [h6]
                                have HOY : Hid ((K.take (m + 1)).filter old = (K.take m).filter old) := Lib.hid (by rw [HTK4.out, List.filter_append]; simp [HOD.out, h6])
                                have HNX : Hid (TK w W1 w9 p mb tp tm nb br made K td ag old (.slice (some ⟨g, 0, none⟩) j cp) (.slice oo M oc) (m + 1)) := Lib.hid ⟨by rw [HOY.out]; exact HO3.out, HS3.out, HR3.out, HG.out, Nat.le_trans HKS.out HK3.out.size⟩
                                go_wp2_with fail
                                go_roundw
                                case rel => exact ⟨m + 1, by omega, by go_num, HNX.out⟩
                                case measure => simp [intOf]; omega
                            · have hlt2 : ¬ (m : Int) < j := by omega
                              have hlt3 : decide ((m : Int) < j) = false := by simp; omega
                              obtain rfl : m = j := by omega
                              have hO := HO.out
                              have hR := HR.out
                              rw [List.take_of_length_le (by rw [HN.out]; exact Nat.le_refl _)] at hO
                              rw [midS_end td ag K HN.out] at hR
                              have HO2 := Lib.hid hO; have HR2 := Lib.hid hR
                              have HT := Lib.hid (sst_tick HS.out (by rw [HN.out]; omega))
                              clear hlt hO hR
                              rw [HOLD.out] at HT
                              go_wp2_with fail
                              refine HT.out.mono ?_
                              rintro e w6 ⟨lv, rfl, h4, h5, k5⟩
                              have HE := Lib.hid (eqL_any wr.heap.size W1.heap.size lv (.slice oo M oc) (K.filter old) w6 h4 (HO2.out.keep k5 (fun g hg f => by have h1 := HO2.out.lo g hg; have h2 := HA1.out.s.1.lt; rcases f with f | f | f <;> omega)))
                              have HNX : Hid (SA w w6 p mb tp tm (nb + K.length) br made K td (fun z => ag z + 1) (.slice ao m cp)) := Lib.hid ⟨h5, HR2.out.keep k5⟩
                              clear h4 h5 k5
                              go_wp2_with fail
                              refine HE.out.mono ?_
                              rintro e w7 ⟨rfl, k7⟩
                              have HNY : Hid (SB w w7 p mb tp tm br (i + 1) (.slice ao m cp) (.int .i64 made)) := Lib.hid ⟨nb + K.length, made, K, td, _, rfl, by rw [HN.out]; omega, hm0, by omega, by rw [HN.out]; exact hK20, fun y hy => by have := HRG.out y hy; omega, HNX.out.keepN k7⟩
                              clear k7
                              go_wp2_with fail
                              go_roundw
                              case rel => exact ⟨i + 1, by omega, by go_num, HNY.out⟩
                              case measure => simp [intOf]; omega
    · rw [decide_eq_false hgo]
      clear hgo
      as_aux_lemma =>
      go_upto_region 59 with fail
      obtain ⟨wo, rfl⟩ : ∃ wo : World, wo = wr := ⟨_, rfl⟩
      go_wp2_with fail
      go_loopw [23] (fun jv wr => ∃ (j : Nat), j ≤ n ∧ jv = .int .i64 j ∧ SA w wr p mb tp tm nb br made K td ag (.slice ao n cp)) (fun jv _ => n - (intOf jv).toNat)
      case atStart => exact ⟨0, Nat.zero_le _, rfl, HA.out⟩
      case round =>
        obtain ⟨j, hj, rfl, hB⟩ := hrel
        have HB9 := Lib.hid hB
        clear hB
        by_cases hlt : j < n
        · have hlt2 : (j : Int) < n := by omega
          have hlt3 : decide ((j : Int) < n) = true := by simp; omega
          have hlt4 : decide (n ≤ j) = false := by simp; omega
          have hjK : j < K.length := by rw [HN.out]; exact hlt
          obtain ⟨gr, rfl, cr, ct, _⟩ := HB9.out.r.at (sv_len HN.out) j (by rw [List.length_map]; exact hjK)
          simp only [List.getElem_map, sv] at cr ct
          have hin := List.getElem_mem hjK
          generalize K[j] = y at cr ct hin
          have HIN := Lib.hid hin; have hyk := Lib.hid (HB9.out.s.1.ki y hin)
          have htid : ∀ W, Keep NoF wr W → Calls Tryz.prog 32 #[.pointer (some ⟨p, 0, none⟩), .int .i64 y] W fun e w' => e = .returned (.int .i64 (td y)) ∧ w' = W := fun W hW => by
            have h := stid_any (HB9.out.keepN hW).s.1 y hyk.out
            rw [if_pos HIN.out] at h
            exact h
          have hof : ∀ W, Keep NoF wr W → td y ≠ 0 → Calls Tryz.prog 33 #[.pointer (some ⟨p, 0, none⟩), .int .i64 (td y)] W fun e w' => e = .returned (.int .i64 y) ∧ Keep NoF W w' := fun W hW h0 => by
            refine (sof_tot (HB9.out.keepN hW).s.1 (td y)).mono ?_
            rintro e w' ⟨r, rfl, hr, hk⟩
            rcases hr with ⟨_, h1, h2⟩ | ⟨_, h1 | h1⟩
            · rw [HB9.out.s.1.uq r h1 y HIN.out h2 (by rw [h2]; exact h0)]; exact ⟨rfl, hk⟩
            · exact absurd h1 h0
            · exact absurd rfl (h1 y HIN.out)
          clear hin
          generalize td y = hv at ct htid hof
          have HTID := Lib.hid htid; have HOF := Lib.hid hof
          have K0 := Lib.hid ((Keep.refl NoF wr).drew)
          clear htid hof
          go_upto_region 62 with fail
          by_cases hv0 : hv = 0
          · subst hv0
            refine wp_region_noPanic ?_
            refine wp_region_held_drew (S := (fun W : World => W.cell? ⟨gr, j * 3, none⟩ = some (.int .i64 y) ∧ W.cell? ⟨gr, j * 3 + 1, none⟩ = some (.int .i64 0))) (by kernel_rfl) (⟨cr, ct⟩) (fun hHeld => ?_)
            refine wpAnyH_take (i := 0) (oi := ?oBz0) (v := ?vBz0) ?hiBz0 (by kernel_rfl) (by kernel_rfl) (by kernel_rfl) (fun _ _ _ h => h) (Or.inl ⟨?wBz0, ?yBz0⟩) (by assumption) ?rBz0
            case hiBz0 => (simp only [List.getElem?_toArray, List.getElem?_cons_zero]; try rfl)
            case wBz0 => rfl
            case yBz0 => (intro w hSw; (try dsimp only at hSw); go_simp; (try with_reducible rfl))
            (try simp only [Act.put, List.setIfInBounds_toArray, List.set_cons_zero, List.set_cons_succ])
            refine wpAnyH_take (i := 1) (oi := ?oBz1) (v := ?vBz1) ?hiBz1 (by kernel_rfl) (by kernel_rfl) (by kernel_rfl) (fun _ _ _ h => h) (Or.inl ⟨?wBz1, ?yBz1⟩) (by assumption) ?rBz1
            case hiBz1 => (simp only [List.getElem?_toArray, List.getElem?_cons_succ, List.getElem?_cons_zero]; try rfl)
            case wBz1 => rfl
            case yBz1 => (intro w hSw; (try dsimp only at hSw); go_simp; (try with_reducible rfl))
            (try simp only [Act.put, List.setIfInBounds_toArray, List.set_cons_zero, List.set_cons_succ])
            refine wpAnyH_take (i := 2) (oi := ?oBz2) (v := ?vBz2) ?hiBz2 (by kernel_rfl) (by kernel_rfl) (by kernel_rfl) (fun _ _ _ h => h) (Or.inl ⟨?wBz2, ?yBz2⟩) (by assumption) ?rBz2
            case hiBz2 => (simp only [List.getElem?_toArray, List.getElem?_cons_succ, List.getElem?_cons_zero]; try rfl)
            case wBz2 => rfl
            case yBz2 => (intro w hSw; (try dsimp only at hSw); go_simp; (try with_reducible rfl))
            (try simp only [Act.put, List.setIfInBounds_toArray, List.set_cons_zero, List.set_cons_succ])
            refine wpAnyH_take (i := 3) (oi := ?oBz3) (v := ?vBz3) ?hiBz3 (by kernel_rfl) (by kernel_rfl) (by kernel_rfl) (fun _ _ _ h => h) (Or.inl ⟨?wBz3, ?yBz3⟩) (by assumption) ?rBz3
            case hiBz3 => (simp only [List.getElem?_toArray, List.getElem?_cons_succ, List.getElem?_cons_zero]; try rfl)
            case wBz3 => rfl
            case yBz3 => (intro w hSw; (try dsimp only at hSw); go_simp; (try with_reducible rfl))
            (try simp only [Act.put, List.setIfInBounds_toArray, List.set_cons_zero, List.set_cons_succ])
            refine wpAnyH_take (i := 4) (oi := ?oBz4) (v := ?vBz4) ?hiBz4 (by kernel_rfl) (by kernel_rfl) (by kernel_rfl) (fun _ _ _ h => h) (Or.inl ⟨?wBz4, ?yBz4⟩) (by assumption) ?rBz4
            case hiBz4 => (simp only [List.getElem?_toArray, List.getElem?_cons_succ, List.getElem?_cons_zero]; try rfl)
            case wBz4 => rfl
            case yBz4 => (intro w hSw; (try dsimp only at hSw); go_simp; (try with_reducible rfl))
            (try simp only [Act.put, List.setIfInBounds_toArray, List.set_cons_zero, List.set_cons_succ])
            refine wpAnyH_take (i := 5) (oi := ?oBz5) (v := ?vBz5) ?hiBz5 (by kernel_rfl) (by kernel_rfl) (by kernel_rfl) (fun _ _ _ h => h) (Or.inl ⟨?wBz5, ?yBz5⟩) (by assumption) ?rBz5
            case hiBz5 => (simp only [List.getElem?_toArray, List.getElem?_cons_succ, List.getElem?_cons_zero]; try rfl)
            case wBz5 => rfl
            case yBz5 => (intro w hSw; (try dsimp only at hSw); go_simp; (try with_reducible rfl))
            (try simp only [Act.put, List.setIfInBounds_toArray, List.set_cons_zero, List.set_cons_succ])
            refine wpAnyH_take (i := 7) (oi := ?oBz7) (v := ?vBz7) ?hiBz7 (by kernel_rfl) (by kernel_rfl) (by kernel_rfl) (fun _ _ _ h => h) (Or.inl ⟨?wBz7, ?yBz7⟩) (by assumption) ?rBz7
            case hiBz7 => (simp only [List.getElem?_toArray, List.getElem?_cons_succ, List.getElem?_cons_zero]; try rfl)
            case wBz7 => rfl
            case yBz7 => (intro w hSw; (try dsimp only at hSw); go_simp; (try with_reducible rfl))
            (try simp only [Act.put, List.setIfInBounds_toArray, List.set_cons_zero, List.set_cons_succ])
            refine wpAnyH_take (i := 8) (oi := ?oBz8) (v := ?vBz8) ?hiBz8 (by kernel_rfl) (by kernel_rfl) (by kernel_rfl) (fun _ _ _ h => h) (Or.inl ⟨?wBz8, ?yBz8⟩) (by assumption) ?rBz8
            case hiBz8 => (simp only [List.getElem?_toArray, List.getElem?_cons_succ, List.getElem?_cons_zero]; try rfl)
            case wBz8 => rfl
            case yBz8 => (intro w hSw; (try dsimp only at hSw); go_simp; (try with_reducible rfl))
            (try simp only [Act.put, List.setIfInBounds_toArray, List.set_cons_zero, List.set_cons_succ])
            refine wpAnyH_take (i := 9) (oi := ?oBz9) (v := ?vBz9) ?hiBz9 (by kernel_rfl) (by kernel_rfl) (by kernel_rfl) (fun _ _ _ h => h) (Or.inl ⟨?wBz9, ?yBz9⟩) (by assumption) ?rBz9
            case hiBz9 => (simp only [List.getElem?_toArray, List.getElem?_cons_succ, List.getElem?_cons_zero]; try rfl)
            case wBz9 => rfl
            case yBz9 => (intro w hSw; (try dsimp only at hSw); go_simp; (try with_reducible rfl))
            (try simp only [Act.put, List.setIfInBounds_toArray, List.set_cons_zero, List.set_cons_succ])
            refine wpAnyH_take (i := 10) (oi := ?oBz10) (v := ?vBz10) ?hiBz10 (by kernel_rfl) (by kernel_rfl) (by kernel_rfl) (fun _ _ _ h => h) (Or.inl ⟨?wBz10, ?yBz10⟩) (by assumption) ?rBz10
            case hiBz10 => (simp only [List.getElem?_toArray, List.getElem?_cons_succ, List.getElem?_cons_zero]; try rfl)
            case wBz10 => rfl
            case yBz10 => (intro w hSw; (try dsimp only at hSw); go_simp; (try with_reducible rfl))
            (try simp only [Act.put, List.setIfInBounds_toArray, List.set_cons_zero, List.set_cons_succ])
            refine wpAnyH_take (i := 11) (oi := ?oBz11) (v := ?vBz11) ?hiBz11 (by kernel_rfl) (by kernel_rfl) (by kernel_rfl) (fun _ _ _ h => h) (Or.inl ⟨?wBz11, ?yBz11⟩) (by assumption) ?rBz11
            case hiBz11 => (simp only [List.getElem?_toArray, List.getElem?_cons_succ, List.getElem?_cons_zero]; try rfl)
            case wBz11 => rfl
            case yBz11 => (intro w hSw; (try dsimp only at hSw); go_simp; (try with_reducible rfl))
            (try simp only [Act.put, List.setIfInBounds_toArray, List.set_cons_zero, List.set_cons_succ])
            refine wpAnyH_ready (rs := [6]) (by kernel_rfl) (by simp) ?_
            refine AllReadyH.cons (o := ?oBz6) ?hiBz6 (fun K hK => ?_) AllReadyH.nil
            case hiBz6 => (simp only [List.getElem?_toArray, List.getElem?_cons_succ, List.getElem?_cons_zero]; try rfl)
            go_simp
            refine (HTID.out _ K0.out).mono ?_; rintro e w' ⟨rfl, rfl⟩
            go_wp2_with fail
            refine hK.out _ _ (⟨cr, ct⟩) (fun hHeld => ?_)
            clear hK K
            (try simp only [Act.put, List.setIfInBounds_toArray, List.set_cons_zero, List.set_cons_succ])
            refine wpAnyH_take (i := 12) (oi := ?oBz12) (v := ?vBz12) ?hiBz12 (by kernel_rfl) (by kernel_rfl) (by kernel_rfl) (fun _ _ _ h => h) (Or.inl ⟨?wBz12, ?yBz12⟩) (by assumption) ?rBz12
            case hiBz12 => (simp only [List.getElem?_toArray, List.getElem?_cons_succ, List.getElem?_cons_zero]; try rfl)
            case wBz12 => rfl
            case yBz12 => (intro w hSw; (try dsimp only at hSw); go_simp; (try with_reducible rfl))
            (try simp only [Act.put, List.setIfInBounds_toArray, List.set_cons_zero, List.set_cons_succ])
            refine wpAnyH_take (i := 13) (oi := ?oBz13) (v := ?vBz13) ?hiBz13 (by kernel_rfl) (by kernel_rfl) (by kernel_rfl) (fun _ _ _ h => h) (Or.inl ⟨?wBz13, ?yBz13⟩) (by assumption) ?rBz13
            case hiBz13 => (simp only [List.getElem?_toArray, List.getElem?_cons_succ, List.getElem?_cons_zero]; try rfl)
            case wBz13 => rfl
            case yBz13 => (intro w hSw; (try dsimp only at hSw); go_simp; (try with_reducible rfl))
            (try simp only [Act.put, List.setIfInBounds_toArray, List.set_cons_zero, List.set_cons_succ])
            refine wpAnyH_take (i := 14) (oi := ?oBz14) (v := ?vBz14) ?hiBz14 (by kernel_rfl) (by kernel_rfl) (by kernel_rfl) (fun _ _ _ h => h) (Or.inl ⟨?wBz14, ?yBz14⟩) (by assumption) ?rBz14
            case hiBz14 => (simp only [List.getElem?_toArray, List.getElem?_cons_succ, List.getElem?_cons_zero]; try rfl)
            case wBz14 => rfl
            case yBz14 => (intro w hSw; (try dsimp only at hSw); go_simp; (try with_reducible rfl))
            (try simp only [Act.put, List.setIfInBounds_toArray, List.set_cons_zero, List.set_cons_succ])
            refine wpAnyH_take (i := 15) (oi := ?oBz15) (v := ?vBz15) ?hiBz15 (by kernel_rfl) (by kernel_rfl) (by kernel_rfl) (fun _ _ _ h => h) (Or.inl ⟨?wBz15, ?yBz15⟩) (by assumption) ?rBz15
            case hiBz15 => (simp only [List.getElem?_toArray, List.getElem?_cons_succ, List.getElem?_cons_zero]; try rfl)
            case wBz15 => rfl
            case yBz15 => (intro w hSw; (try dsimp only at hSw); go_simp; (try with_reducible rfl))
            (try simp only [Act.put, List.setIfInBounds_toArray, List.set_cons_zero, List.set_cons_succ])
            refine wpAnyH_take (i := 16) (oi := ?oBz16) (v := ?vBz16) ?hiBz16 (by kernel_rfl) (by kernel_rfl) (by kernel_rfl) (fun _ _ _ h => h) (Or.inl ⟨?wBz16, ?yBz16⟩) (by assumption) ?rBz16
            case hiBz16 => (simp only [List.getElem?_toArray, List.getElem?_cons_succ, List.getElem?_cons_zero]; try rfl)
            case wBz16 => rfl
            case yBz16 => (intro w hSw; (try dsimp only at hSw); go_simp; (try with_reducible rfl))
            (try simp only [Act.put, List.setIfInBounds_toArray, List.set_cons_zero, List.set_cons_succ])
            refine wpAnyH_take (i := 17) (oi := ?oBz17) (v := ?vBz17) ?hiBz17 (by kernel_rfl) (by kernel_rfl) (by kernel_rfl) (fun _ _ _ h => h) (Or.inl ⟨?wBz17, ?yBz17⟩) (by assumption) ?rBz17
            case hiBz17 => (simp only [List.getElem?_toArray, List.getElem?_cons_succ, List.getElem?_cons_zero]; try rfl)
            case wBz17 => rfl
            case yBz17 => (intro w hSw; (try dsimp only at hSw); go_simp; (try with_reducible rfl))
            (try simp only [Act.put, List.setIfInBounds_toArray, List.set_cons_zero, List.set_cons_succ])
            refine wpAnyH_take (i := 18) (oi := ?oBz18) (v := ?vBz18) ?hiBz18 (by kernel_rfl) (by kernel_rfl) (by kernel_rfl) (fun _ _ _ h => h) (Or.inl ⟨?wBz18, ?yBz18⟩) (by assumption) ?rBz18
            case hiBz18 => (simp only [List.getElem?_toArray, List.getElem?_cons_succ, List.getElem?_cons_zero]; try rfl)
            case wBz18 => rfl
            case yBz18 => (intro w hSw; (try dsimp only at hSw); go_simp; (try with_reducible rfl))
            (try simp only [Act.put, List.setIfInBounds_toArray, List.set_cons_zero, List.set_cons_succ])
            refine wpAnyH_take (i := 19) (oi := ?oBz19) (v := ?vBz19) ?hiBz19 (by kernel_rfl) (by kernel_rfl) (by kernel_rfl) (fun _ _ _ h => h) (Or.inl ⟨?wBz19, ?yBz19⟩) (by assumption) ?rBz19
            case hiBz19 => (simp only [List.getElem?_toArray, List.getElem?_cons_succ, List.getElem?_cons_zero]; try rfl)
            case wBz19 => rfl
            case yBz19 => (intro w hSw; (try dsimp only at hSw); go_simp; (try with_reducible rfl))
            (try simp only [Act.put, List.setIfInBounds_toArray, List.set_cons_zero, List.set_cons_succ])
            refine wpAnyH_take (i := 20) (oi := ?oBz20) (v := ?vBz20) ?hiBz20 (by kernel_rfl) (by kernel_rfl) (by kernel_rfl) (fun _ _ _ h => h) (Or.inl ⟨?wBz20, ?yBz20⟩) (by assumption) ?rBz20
            case hiBz20 => (simp only [List.getElem?_toArray, List.getElem?_cons_succ, List.getElem?_cons_zero]; try rfl)
            case wBz20 => rfl
            case yBz20 => (intro w hSw; (try dsimp only at hSw); go_simp; (try with_reducible rfl))
            (try simp only [Act.put, List.setIfInBounds_toArray, List.set_cons_zero, List.set_cons_succ])
            refine wpAnyH_take (i := 21) (oi := ?oBz21) (v := undef) ?hiBz21 (by kernel_rfl) (by kernel_rfl) (by kernel_rfl) (fun _ _ _ h => h) (Or.inr ⟨?wBz21, rfl⟩) (by assumption) ?rBz21
            case hiBz21 => (simp only [List.getElem?_toArray, List.getElem?_cons_succ, List.getElem?_cons_zero]; try rfl)
            case wBz21 => rfl
            (try simp only [Act.put, List.setIfInBounds_toArray, List.set_cons_zero, List.set_cons_succ])
            refine wpAnyH_take (i := 22) (oi := ?oBz22) (v := undef) ?hiBz22 (by kernel_rfl) (by kernel_rfl) (by kernel_rfl) (fun _ _ _ h => h) (Or.inr ⟨?wBz22, rfl⟩) (by assumption) ?rBz22
            case hiBz22 => (simp only [List.getElem?_toArray, List.getElem?_cons_succ, List.getElem?_cons_zero]; try rfl)
            case wBz22 => rfl
            (try simp only [Act.put, List.setIfInBounds_toArray, List.set_cons_zero, List.set_cons_succ])
            refine wpAnyH_take (i := 23) (oi := ?oBz23) (v := undef) ?hiBz23 (by kernel_rfl) (by kernel_rfl) (by kernel_rfl) (fun _ _ _ h => h) (Or.inr ⟨?wBz23, rfl⟩) (by assumption) ?rBz23
            case hiBz23 => (simp only [List.getElem?_toArray, List.getElem?_cons_succ, List.getElem?_cons_zero]; try rfl)
            case wBz23 => rfl
            (try simp only [Act.put, List.setIfInBounds_toArray, List.set_cons_zero, List.set_cons_succ])
            refine wpAnyH_take (i := 24) (oi := ?oBz24) (v := undef) ?hiBz24 (by kernel_rfl) (by kernel_rfl) (by kernel_rfl) (fun _ _ _ h => h) (Or.inr ⟨?wBz24, rfl⟩) (by assumption) ?rBz24
            case hiBz24 => (simp only [List.getElem?_toArray, List.getElem?_cons_succ, List.getElem?_cons_zero]; try rfl)
            case wBz24 => rfl
            (try simp only [Act.put, List.setIfInBounds_toArray, List.set_cons_zero, List.set_cons_succ])
            refine wpAnyH_take (i := 25) (oi := ?oBz25) (v := undef) ?hiBz25 (by kernel_rfl) (by kernel_rfl) (by kernel_rfl) (fun _ _ _ h => h) (Or.inr ⟨?wBz25, rfl⟩) (by assumption) ?rBz25
            case hiBz25 => (simp only [List.getElem?_toArray, List.getElem?_cons_succ, List.getElem?_cons_zero]; try rfl)
            case wBz25 => rfl
            (try simp only [Act.put, List.setIfInBounds_toArray, List.set_cons_zero, List.set_cons_succ])
            refine wpAnyH_take (i := 26) (oi := ?oBz26) (v := undef) ?hiBz26 (by kernel_rfl) (by kernel_rfl) (by kernel_rfl) (fun _ _ _ h => h) (Or.inr ⟨?wBz26, rfl⟩) (by assumption) ?rBz26
            case hiBz26 => (simp only [List.getElem?_toArray, List.getElem?_cons_succ, List.getElem?_cons_zero]; try rfl)
            case wBz26 => rfl
            (try simp only [Act.put, List.setIfInBounds_toArray, List.set_cons_zero, List.set_cons_succ])
            refine wpAnyH_take (i := 27) (oi := ?oBz27) (v := undef) ?hiBz27 (by kernel_rfl) (by kernel_rfl) (by kernel_rfl) (fun _ _ _ h => h) (Or.inr ⟨?wBz27, rfl⟩) (by assumption) ?rBz27
            case hiBz27 => (simp only [List.getElem?_toArray, List.getElem?_cons_succ, List.getElem?_cons_zero]; try rfl)
            case wBz27 => rfl
            (try simp only [Act.put, List.setIfInBounds_toArray, List.set_cons_zero, List.set_cons_succ])
            refine wpAnyH_take (i := 28) (oi := ?oBz28) (v := undef) ?hiBz28 (by kernel_rfl) (by kernel_rfl) (by kernel_rfl) (fun _ _ _ h => h) (Or.inr ⟨?wBz28, rfl⟩) (by assumption) ?rBz28
            case hiBz28 => (simp only [List.getElem?_toArray, List.getElem?_cons_succ, List.getElem?_cons_zero]; try rfl)
            case wBz28 => rfl
            (try simp only [Act.put, List.setIfInBounds_toArray, List.set_cons_zero, List.set_cons_succ])
            refine wpAnyH_take (i := 29) (oi := ?oBz29) (v := undef) ?hiBz29 (by kernel_rfl) (by kernel_rfl) (by kernel_rfl) (fun _ _ _ h => h) (Or.inr ⟨?wBz29, rfl⟩) (by assumption) ?rBz29
            case hiBz29 => (simp only [List.getElem?_toArray, List.getElem?_cons_succ, List.getElem?_cons_zero]; try rfl)
            case wBz29 => rfl
            (try simp only [Act.put, List.setIfInBounds_toArray, List.set_cons_zero, List.set_cons_succ])
            refine wpAnyH_take (i := 30) (oi := ?oBz30) (v := undef) ?hiBz30 (by kernel_rfl) (by kernel_rfl) (by kernel_rfl) (fun _ _ _ h => h) (Or.inr ⟨?wBz30, rfl⟩) (by assumption) ?rBz30
            case hiBz30 => (simp only [List.getElem?_toArray, List.getElem?_cons_succ, List.getElem?_cons_zero]; try rfl)
            case wBz30 => rfl
            (try simp only [Act.put, List.setIfInBounds_toArray, List.set_cons_zero, List.set_cons_succ])
            refine wpAnyH_take (i := 31) (oi := ?oBz31) (v := undef) ?hiBz31 (by kernel_rfl) (by kernel_rfl) (by kernel_rfl) (fun _ _ _ h => h) (Or.inr ⟨?wBz31, rfl⟩) (by assumption) ?rBz31
            case hiBz31 => (simp only [List.getElem?_toArray, List.getElem?_cons_succ, List.getElem?_cons_zero]; try rfl)
            case wBz31 => rfl
            (try simp only [Act.put, List.setIfInBounds_toArray, List.set_cons_zero, List.set_cons_succ])
            refine wpAnyH_take (i := 32) (oi := ?oBz32) (v := undef) ?hiBz32 (by kernel_rfl) (by kernel_rfl) (by kernel_rfl) (fun _ _ _ h => h) (Or.inr ⟨?wBz32, rfl⟩) (by assumption) ?rBz32
            case hiBz32 => (simp only [List.getElem?_toArray, List.getElem?_cons_succ, List.getElem?_cons_zero]; try rfl)
            case wBz32 => rfl
            (try simp only [Act.put, List.setIfInBounds_toArray, List.set_cons_zero, List.set_cons_succ])
            refine wpAnyH_take (i := 33) (oi := ?oBz33) (v := undef) ?hiBz33 (by kernel_rfl) (by kernel_rfl) (by kernel_rfl) (fun _ _ _ h => h) (Or.inr ⟨?wBz33, rfl⟩) (by assumption) ?rBz33
            case hiBz33 => (simp only [List.getElem?_toArray, List.getElem?_cons_succ, List.getElem?_cons_zero]; try rfl)
            case wBz33 => rfl
            (try simp only [Act.put, List.setIfInBounds_toArray, List.set_cons_zero, List.set_cons_succ])
            refine wpAnyH_take (i := 34) (oi := ?oBz34) (v := ?vBz34) ?hiBz34 (by kernel_rfl) (by kernel_rfl) (by kernel_rfl) (fun _ _ _ h => h) (Or.inl ⟨?wBz34, ?yBz34⟩) (by assumption) ?rBz34
            case hiBz34 => (simp only [List.getElem?_toArray, List.getElem?_cons_succ, List.getElem?_cons_zero]; try rfl)
            case wBz34 => rfl
            case yBz34 => (intro w hSw; (try dsimp only at hSw); go_simp; (try with_reducible rfl))
            (try simp only [Act.put, List.setIfInBounds_toArray, List.set_cons_zero, List.set_cons_succ])
            refine wpAnyH_take (i := 35) (oi := ?oBz35) (v := ?vBz35) ?hiBz35 (by kernel_rfl) (by kernel_rfl) (by kernel_rfl) (fun _ _ _ h => h) (Or.inl ⟨?wBz35, ?yBz35⟩) (by assumption) ?rBz35
            case hiBz35 => (simp only [List.getElem?_toArray, List.getElem?_cons_succ, List.getElem?_cons_zero]; try rfl)
            case wBz35 => rfl
            case yBz35 => (intro w hSw; (try dsimp only at hSw); go_simp; (try with_reducible rfl))
            (try simp only [Act.put, List.setIfInBounds_toArray, List.set_cons_zero, List.set_cons_succ])
            refine wpAnyH_done (by kernel_rfl) ?_ _
            refine NoPanic.normal ?_
            have HB10 := Lib.hid (HB9.out.keepN K0.out)
            go_wp2_with fail
            go_roundw
            case rel => exact ⟨j + 1, by omega, by go_num, HB10.out⟩
            case measure => simp [intOf]; omega
          · have hv1 : (hv != 0) = true := by simp [hv0]
            refine wp_region_noPanic ?_
            refine wp_region_held_drew (S := (fun W : World => W.cell? ⟨gr, j * 3, none⟩ = some (.int .i64 y) ∧ W.cell? ⟨gr, j * 3 + 1, none⟩ = some (.int .i64 hv))) (by kernel_rfl) (⟨cr, ct⟩) (fun hHeld => ?_)
            refine wpAnyH_take (i := 0) (oi := ?oBn0) (v := ?vBn0) ?hiBn0 (by kernel_rfl) (by kernel_rfl) (by kernel_rfl) (fun _ _ _ h => h) (Or.inl ⟨?wBn0, ?yBn0⟩) (by assumption) ?rBn0
            case hiBn0 => (simp only [List.getElem?_toArray, List.getElem?_cons_zero]; try rfl)
            case wBn0 => rfl
            case yBn0 => (intro w hSw; (try dsimp only at hSw); go_simp; (try with_reducible rfl))
            (try simp only [Act.put, List.setIfInBounds_toArray, List.set_cons_zero, List.set_cons_succ])
            refine wpAnyH_take (i := 1) (oi := ?oBn1) (v := ?vBn1) ?hiBn1 (by kernel_rfl) (by kernel_rfl) (by kernel_rfl) (fun _ _ _ h => h) (Or.inl ⟨?wBn1, ?yBn1⟩) (by assumption) ?rBn1
            case hiBn1 => (simp only [List.getElem?_toArray, List.getElem?_cons_succ, List.getElem?_cons_zero]; try rfl)
            case wBn1 => rfl
            case yBn1 => (intro w hSw; (try dsimp only at hSw); go_simp; (try with_reducible rfl))
            (try simp only [Act.put, List.setIfInBounds_toArray, List.set_cons_zero, List.set_cons_succ])
            refine wpAnyH_take (i := 2) (oi := ?oBn2) (v := ?vBn2) ?hiBn2 (by kernel_rfl) (by kernel_rfl) (by kernel_rfl) (fun _ _ _ h => h) (Or.inl ⟨?wBn2, ?yBn2⟩) (by assumption) ?rBn2
            case hiBn2 => (simp only [List.getElem?_toArray, List.getElem?_cons_succ, List.getElem?_cons_zero]; try rfl)
            case wBn2 => rfl
            case yBn2 => (intro w hSw; (try dsimp only at hSw); go_simp; (try with_reducible rfl))
            (try simp only [Act.put, List.setIfInBounds_toArray, List.set_cons_zero, List.set_cons_succ])
            refine wpAnyH_take (i := 3) (oi := ?oBn3) (v := ?vBn3) ?hiBn3 (by kernel_rfl) (by kernel_rfl) (by kernel_rfl) (fun _ _ _ h => h) (Or.inl ⟨?wBn3, ?yBn3⟩) (by assumption) ?rBn3
            case hiBn3 => (simp only [List.getElem?_toArray, List.getElem?_cons_succ, List.getElem?_cons_zero]; try rfl)
            case wBn3 => rfl
            case yBn3 => (intro w hSw; (try dsimp only at hSw); go_simp; (try with_reducible rfl))
            (try simp only [Act.put, List.setIfInBounds_toArray, List.set_cons_zero, List.set_cons_succ])
            refine wpAnyH_take (i := 4) (oi := ?oBn4) (v := ?vBn4) ?hiBn4 (by kernel_rfl) (by kernel_rfl) (by kernel_rfl) (fun _ _ _ h => h) (Or.inl ⟨?wBn4, ?yBn4⟩) (by assumption) ?rBn4
            case hiBn4 => (simp only [List.getElem?_toArray, List.getElem?_cons_succ, List.getElem?_cons_zero]; try rfl)
            case wBn4 => rfl
            case yBn4 => (intro w hSw; (try dsimp only at hSw); go_simp; (try with_reducible rfl))
            (try simp only [Act.put, List.setIfInBounds_toArray, List.set_cons_zero, List.set_cons_succ])
            refine wpAnyH_take (i := 5) (oi := ?oBn5) (v := ?vBn5) ?hiBn5 (by kernel_rfl) (by kernel_rfl) (by kernel_rfl) (fun _ _ _ h => h) (Or.inl ⟨?wBn5, ?yBn5⟩) (by assumption) ?rBn5
            case hiBn5 => (simp only [List.getElem?_toArray, List.getElem?_cons_succ, List.getElem?_cons_zero]; try rfl)
            case wBn5 => rfl
            case yBn5 => (intro w hSw; (try dsimp only at hSw); go_simp; (try with_reducible rfl))
            (try simp only [Act.put, List.setIfInBounds_toArray, List.set_cons_zero, List.set_cons_succ])
            refine wpAnyH_take (i := 7) (oi := ?oBn7) (v := ?vBn7) ?hiBn7 (by kernel_rfl) (by kernel_rfl) (by kernel_rfl) (fun _ _ _ h => h) (Or.inl ⟨?wBn7, ?yBn7⟩) (by assumption) ?rBn7
            case hiBn7 => (simp only [List.getElem?_toArray, List.getElem?_cons_succ, List.getElem?_cons_zero]; try rfl)
            case wBn7 => rfl
            case yBn7 => (intro w hSw; (try dsimp only at hSw); go_simp; (try with_reducible rfl))
            (try simp only [Act.put, List.setIfInBounds_toArray, List.set_cons_zero, List.set_cons_succ])
            refine wpAnyH_take (i := 8) (oi := ?oBn8) (v := ?vBn8) ?hiBn8 (by kernel_rfl) (by kernel_rfl) (by kernel_rfl) (fun _ _ _ h => h) (Or.inl ⟨?wBn8, ?yBn8⟩) (by assumption) ?rBn8
            case hiBn8 => (simp only [List.getElem?_toArray, List.getElem?_cons_succ, List.getElem?_cons_zero]; try rfl)
            case wBn8 => rfl
            case yBn8 => (intro w hSw; (try dsimp only at hSw); go_simp; (try with_reducible rfl))
            (try simp only [Act.put, List.setIfInBounds_toArray, List.set_cons_zero, List.set_cons_succ])
            refine wpAnyH_take (i := 9) (oi := ?oBn9) (v := ?vBn9) ?hiBn9 (by kernel_rfl) (by kernel_rfl) (by kernel_rfl) (fun _ _ _ h => h) (Or.inl ⟨?wBn9, ?yBn9⟩) (by assumption) ?rBn9
            case hiBn9 => (simp only [List.getElem?_toArray, List.getElem?_cons_succ, List.getElem?_cons_zero]; try rfl)
            case wBn9 => rfl
            case yBn9 => (intro w hSw; (try dsimp only at hSw); go_simp; (try with_reducible rfl))
            (try simp only [Act.put, List.setIfInBounds_toArray, List.set_cons_zero, List.set_cons_succ])
            refine wpAnyH_take (i := 10) (oi := ?oBn10) (v := ?vBn10) ?hiBn10 (by kernel_rfl) (by kernel_rfl) (by kernel_rfl) (fun _ _ _ h => h) (Or.inl ⟨?wBn10, ?yBn10⟩) (by assumption) ?rBn10
            case hiBn10 => (simp only [List.getElem?_toArray, List.getElem?_cons_succ, List.getElem?_cons_zero]; try rfl)
            case wBn10 => rfl
            case yBn10 => (intro w hSw; (try dsimp only at hSw); go_simp; (try with_reducible rfl))
            (try simp only [Act.put, List.setIfInBounds_toArray, List.set_cons_zero, List.set_cons_succ])
            refine wpAnyH_take (i := 11) (oi := ?oBn11) (v := ?vBn11) ?hiBn11 (by kernel_rfl) (by kernel_rfl) (by kernel_rfl) (fun _ _ _ h => h) (Or.inl ⟨?wBn11, ?yBn11⟩) (by assumption) ?rBn11
            case hiBn11 => (simp only [List.getElem?_toArray, List.getElem?_cons_succ, List.getElem?_cons_zero]; try rfl)
            case wBn11 => rfl
            case yBn11 => (intro w hSw; (try dsimp only at hSw); go_simp; (try with_reducible rfl))
            (try simp only [Act.put, List.setIfInBounds_toArray, List.set_cons_zero, List.set_cons_succ])
            refine wpAnyH_ready (rs := [6]) (by kernel_rfl) (by simp) ?_
            refine AllReadyH.cons (o := ?oBn6) ?hiBn6 (fun K hK => ?_) AllReadyH.nil
            case hiBn6 => (simp only [List.getElem?_toArray, List.getElem?_cons_succ, List.getElem?_cons_zero]; try rfl)
            go_simp
            refine (HTID.out _ K0.out).mono ?_; rintro e w' ⟨rfl, rfl⟩
            go_wp2_with fail
            refine hK.out _ _ (⟨cr, ct⟩) (fun hHeld => ?_)
            clear hK K
            (try simp only [Act.put, List.setIfInBounds_toArray, List.set_cons_zero, List.set_cons_succ])
            refine wpAnyH_take (i := 12) (oi := ?oBn12) (v := ?vBn12) ?hiBn12 (by kernel_rfl) (by kernel_rfl) (by kernel_rfl) (fun _ _ _ h => h) (Or.inl ⟨?wBn12, ?yBn12⟩) (by assumption) ?rBn12
            case hiBn12 => (simp only [List.getElem?_toArray, List.getElem?_cons_succ, List.getElem?_cons_zero]; try rfl)
            case wBn12 => rfl
            case yBn12 => (intro w hSw; (try dsimp only at hSw); go_simp; (try with_reducible rfl))
            (try simp only [Act.put, List.setIfInBounds_toArray, List.set_cons_zero, List.set_cons_succ])
            refine wpAnyH_take (i := 13) (oi := ?oBn13) (v := ?vBn13) ?hiBn13 (by kernel_rfl) (by kernel_rfl) (by kernel_rfl) (fun _ _ _ h => h) (Or.inl ⟨?wBn13, ?yBn13⟩) (by assumption) ?rBn13
            case hiBn13 => (simp only [List.getElem?_toArray, List.getElem?_cons_succ, List.getElem?_cons_zero]; try rfl)
            case wBn13 => rfl
            case yBn13 => (intro w hSw; (try dsimp only at hSw); go_simp; (try with_reducible rfl))
            (try simp only [Act.put, List.setIfInBounds_toArray, List.set_cons_zero, List.set_cons_succ])
            refine wpAnyH_take (i := 14) (oi := ?oBn14) (v := ?vBn14) ?hiBn14 (by kernel_rfl) (by kernel_rfl) (by kernel_rfl) (fun _ _ _ h => h) (Or.inl ⟨?wBn14, ?yBn14⟩) (by assumption) ?rBn14
            case hiBn14 => (simp only [List.getElem?_toArray, List.getElem?_cons_succ, List.getElem?_cons_zero]; try rfl)
            case wBn14 => rfl
            case yBn14 => (intro w hSw; (try dsimp only at hSw); go_simp; (try with_reducible rfl))
            (try simp only [Act.put, List.setIfInBounds_toArray, List.set_cons_zero, List.set_cons_succ])
            refine wpAnyH_take (i := 15) (oi := ?oBn15) (v := ?vBn15) ?hiBn15 (by kernel_rfl) (by kernel_rfl) (by kernel_rfl) (fun _ _ _ h => h) (Or.inl ⟨?wBn15, ?yBn15⟩) (by assumption) ?rBn15
            case hiBn15 => (simp only [List.getElem?_toArray, List.getElem?_cons_succ, List.getElem?_cons_zero]; try rfl)
            case wBn15 => rfl
            case yBn15 => (intro w hSw; (try dsimp only at hSw); go_simp; (try with_reducible rfl))
            (try simp only [Act.put, List.setIfInBounds_toArray, List.set_cons_zero, List.set_cons_succ])
            refine wpAnyH_take (i := 16) (oi := ?oBn16) (v := ?vBn16) ?hiBn16 (by kernel_rfl) (by kernel_rfl) (by kernel_rfl) (fun _ _ _ h => h) (Or.inl ⟨?wBn16, ?yBn16⟩) (by assumption) ?rBn16
            case hiBn16 => (simp only [List.getElem?_toArray, List.getElem?_cons_succ, List.getElem?_cons_zero]; try rfl)
            case wBn16 => rfl
            case yBn16 => (intro w hSw; (try dsimp only at hSw); go_simp; (try with_reducible rfl))
            (try simp only [Act.put, List.setIfInBounds_toArray, List.set_cons_zero, List.set_cons_succ])
            refine wpAnyH_take (i := 17) (oi := ?oBn17) (v := ?vBn17) ?hiBn17 (by kernel_rfl) (by kernel_rfl) (by kernel_rfl) (fun _ _ _ h => h) (Or.inl ⟨?wBn17, ?yBn17⟩) (by assumption) ?rBn17
            case hiBn17 => (simp only [List.getElem?_toArray, List.getElem?_cons_succ, List.getElem?_cons_zero]; try rfl)
            case wBn17 => rfl
            case yBn17 => (intro w hSw; (try dsimp only at hSw); go_simp; (try with_reducible rfl))
            (try simp only [Act.put, List.setIfInBounds_toArray, List.set_cons_zero, List.set_cons_succ])
            refine wpAnyH_take (i := 18) (oi := ?oBn18) (v := ?vBn18) ?hiBn18 (by kernel_rfl) (by kernel_rfl) (by kernel_rfl) (fun _ _ _ h => h) (Or.inl ⟨?wBn18, ?yBn18⟩) (by assumption) ?rBn18
            case hiBn18 => (simp only [List.getElem?_toArray, List.getElem?_cons_succ, List.getElem?_cons_zero]; try rfl)
            case wBn18 => rfl
            case yBn18 => (intro w hSw; (try dsimp only at hSw); go_simp; (try with_reducible rfl))
            (try simp only [Act.put, List.setIfInBounds_toArray, List.set_cons_zero, List.set_cons_succ])
            refine wpAnyH_take (i := 19) (oi := ?oBn19) (v := ?vBn19) ?hiBn19 (by kernel_rfl) (by kernel_rfl) (by kernel_rfl) (fun _ _ _ h => h) (Or.inl ⟨?wBn19, ?yBn19⟩) (by assumption) ?rBn19
            case hiBn19 => (simp only [List.getElem?_toArray, List.getElem?_cons_succ, List.getElem?_cons_zero]; try rfl)
            case wBn19 => rfl
            case yBn19 => (intro w hSw; (try dsimp only at hSw); go_simp; (try with_reducible rfl))
            (try simp only [Act.put, List.setIfInBounds_toArray, List.set_cons_zero, List.set_cons_succ])
            refine wpAnyH_take (i := 20) (oi := ?oBn20) (v := ?vBn20) ?hiBn20 (by kernel_rfl) (by kernel_rfl) (by kernel_rfl) (fun _ _ _ h => h) (Or.inl ⟨?wBn20, ?yBn20⟩) (by assumption) ?rBn20
            case hiBn20 => (simp only [List.getElem?_toArray, List.getElem?_cons_succ, List.getElem?_cons_zero]; try rfl)
            case wBn20 => rfl
            case yBn20 => (intro w hSw; (try dsimp only at hSw); go_simp; (try with_reducible rfl))
            (try simp only [Act.put, List.setIfInBounds_toArray, List.set_cons_zero, List.set_cons_succ])
            refine wpAnyH_take (i := 21) (oi := ?oBn21) (v := ?vBn21) ?hiBn21 (by kernel_rfl) (by kernel_rfl) (by kernel_rfl) (fun _ _ _ h => h) (Or.inl ⟨?wBn21, ?yBn21⟩) (by assumption) ?rBn21
            case hiBn21 => (simp only [List.getElem?_toArray, List.getElem?_cons_succ, List.getElem?_cons_zero]; try rfl)
            case wBn21 => rfl
            case yBn21 => (intro w hSw; (try dsimp only at hSw); go_simp; (try with_reducible rfl))
            (try simp only [Act.put, List.setIfInBounds_toArray, List.set_cons_zero, List.set_cons_succ])
            refine wpAnyH_take (i := 22) (oi := ?oBn22) (v := ?vBn22) ?hiBn22 (by kernel_rfl) (by kernel_rfl) (by kernel_rfl) (fun _ _ _ h => h) (Or.inl ⟨?wBn22, ?yBn22⟩) (by assumption) ?rBn22
            case hiBn22 => (simp only [List.getElem?_toArray, List.getElem?_cons_succ, List.getElem?_cons_zero]; try rfl)
            case wBn22 => rfl
            case yBn22 => (intro w hSw; (try dsimp only at hSw); go_simp; (try with_reducible rfl))
            (try simp only [Act.put, List.setIfInBounds_toArray, List.set_cons_zero, List.set_cons_succ])
            refine wpAnyH_take (i := 23) (oi := ?oBn23) (v := ?vBn23) ?hiBn23 (by kernel_rfl) (by kernel_rfl) (by kernel_rfl) (fun _ _ _ h => h) (Or.inl ⟨?wBn23, ?yBn23⟩) (by assumption) ?rBn23
            case hiBn23 => (simp only [List.getElem?_toArray, List.getElem?_cons_succ, List.getElem?_cons_zero]; try rfl)
            case wBn23 => rfl
            case yBn23 => (intro w hSw; (try dsimp only at hSw); go_simp; (try with_reducible rfl))
            (try simp only [Act.put, List.setIfInBounds_toArray, List.set_cons_zero, List.set_cons_succ])
            refine wpAnyH_take (i := 24) (oi := ?oBn24) (v := ?vBn24) ?hiBn24 (by kernel_rfl) (by kernel_rfl) (by kernel_rfl) (fun _ _ _ h => h) (Or.inl ⟨?wBn24, ?yBn24⟩) (by assumption) ?rBn24
            case hiBn24 => (simp only [List.getElem?_toArray, List.getElem?_cons_succ, List.getElem?_cons_zero]; try rfl)
            case wBn24 => rfl
            case yBn24 => (intro w hSw; (try dsimp only at hSw); go_simp; (try with_reducible rfl))
            (try simp only [Act.put, List.setIfInBounds_toArray, List.set_cons_zero, List.set_cons_succ])
            refine wpAnyH_take (i := 25) (oi := ?oBn25) (v := ?vBn25) ?hiBn25 (by kernel_rfl) (by kernel_rfl) (by kernel_rfl) (fun _ _ _ h => h) (Or.inl ⟨?wBn25, ?yBn25⟩) (by assumption) ?rBn25
            case hiBn25 => (simp only [List.getElem?_toArray, List.getElem?_cons_succ, List.getElem?_cons_zero]; try rfl)
            case wBn25 => rfl
            case yBn25 => (intro w hSw; (try dsimp only at hSw); go_simp; (try with_reducible rfl))
            (try simp only [Act.put, List.setIfInBounds_toArray, List.set_cons_zero, List.set_cons_succ])
            refine wpAnyH_take (i := 26) (oi := ?oBn26) (v := ?vBn26) ?hiBn26 (by kernel_rfl) (by kernel_rfl) (by kernel_rfl) (fun _ _ _ h => h) (Or.inl ⟨?wBn26, ?yBn26⟩) (by assumption) ?rBn26
            case hiBn26 => (simp only [List.getElem?_toArray, List.getElem?_cons_succ, List.getElem?_cons_zero]; try rfl)
            case wBn26 => rfl
            case yBn26 => (intro w hSw; (try dsimp only at hSw); go_simp; (try with_reducible rfl))
            (try simp only [Act.put, List.setIfInBounds_toArray, List.set_cons_zero, List.set_cons_succ])
            refine wpAnyH_take (i := 28) (oi := ?oBn28) (v := ?vBn28) ?hiBn28 (by kernel_rfl) (by kernel_rfl) (by kernel_rfl) (fun _ _ _ h => h) (Or.inl ⟨?wBn28, ?yBn28⟩) (by assumption) ?rBn28
            case hiBn28 => (simp only [List.getElem?_toArray, List.getElem?_cons_succ, List.getElem?_cons_zero]; try rfl)
            case wBn28 => rfl
            case yBn28 => (intro w hSw; (try dsimp only at hSw); go_simp; (try with_reducible rfl))
            (try simp only [Act.put, List.setIfInBounds_toArray, List.set_cons_zero, List.set_cons_succ])
            refine wpAnyH_take (i := 29) (oi := ?oBn29) (v := ?vBn29) ?hiBn29 (by kernel_rfl) (by kernel_rfl) (by kernel_rfl) (fun _ _ _ h => h) (Or.inl ⟨?wBn29, ?yBn29⟩) (by assumption) ?rBn29
            case hiBn29 => (simp only [List.getElem?_toArray, List.getElem?_cons_succ, List.getElem?_cons_zero]; try rfl)
            case wBn29 => rfl
            case yBn29 => (intro w hSw; (try dsimp only at hSw); go_simp; (try with_reducible rfl))
            (try simp only [Act.put, List.setIfInBounds_toArray, List.set_cons_zero, List.set_cons_succ])
            refine wpAnyH_take (i := 30) (oi := ?oBn30) (v := ?vBn30) ?hiBn30 (by kernel_rfl) (by kernel_rfl) (by kernel_rfl) (fun _ _ _ h => h) (Or.inl ⟨?wBn30, ?yBn30⟩) (by assumption) ?rBn30
            case hiBn30 => (simp only [List.getElem?_toArray, List.getElem?_cons_succ, List.getElem?_cons_zero]; try rfl)
            case wBn30 => rfl
            case yBn30 => (intro w hSw; (try dsimp only at hSw); go_simp; (try with_reducible rfl))
            (try simp only [Act.put, List.setIfInBounds_toArray, List.set_cons_zero, List.set_cons_succ])
            refine wpAnyH_take (i := 31) (oi := ?oBn31) (v := ?vBn31) ?hiBn31 (by kernel_rfl) (by kernel_rfl) (by kernel_rfl) (fun _ _ _ h => h) (Or.inl ⟨?wBn31, ?yBn31⟩) (by assumption) ?rBn31
            case hiBn31 => (simp only [List.getElem?_toArray, List.getElem?_cons_succ, List.getElem?_cons_zero]; try rfl)
            case wBn31 => rfl
            case yBn31 => (intro w hSw; (try dsimp only at hSw); go_simp; (try with_reducible rfl))
            (try simp only [Act.put, List.setIfInBounds_toArray, List.set_cons_zero, List.set_cons_succ])
            refine wpAnyH_take (i := 32) (oi := ?oBn32) (v := ?vBn32) ?hiBn32 (by kernel_rfl) (by kernel_rfl) (by kernel_rfl) (fun _ _ _ h => h) (Or.inl ⟨?wBn32, ?yBn32⟩) (by assumption) ?rBn32
            case hiBn32 => (simp only [List.getElem?_toArray, List.getElem?_cons_succ, List.getElem?_cons_zero]; try rfl)
            case wBn32 => rfl
            case yBn32 => (intro w hSw; (try dsimp only at hSw); go_simp; (try with_reducible rfl))
            (try simp only [Act.put, List.setIfInBounds_toArray, List.set_cons_zero, List.set_cons_succ])
            refine wpAnyH_ready (rs := [27]) (by kernel_rfl) (by simp) ?_
            refine AllReadyH.cons (o := ?oBn27) ?hiBn27 (fun K hK => ?_) AllReadyH.nil
            case hiBn27 => (simp only [List.getElem?_toArray, List.getElem?_cons_succ, List.getElem?_cons_zero]; try rfl)
            go_simp
            refine (HOF.out _ K0.out hv0).mono ?_; rintro e w9 ⟨rfl, hk9⟩
            go_wp2_with fail
            refine hK.out _ _ (⟨hk9.cell' cr (fun f => f), hk9.cell' ct (fun f => f)⟩) (fun hHeld => ?_)
            clear hK K
            (try simp only [Act.put, List.setIfInBounds_toArray, List.set_cons_zero, List.set_cons_succ])
            refine wpAnyH_take (i := 33) (oi := ?oBn33) (v := ?vBn33) ?hiBn33 (by kernel_rfl) (by kernel_rfl) (by kernel_rfl) (fun _ _ _ h => h) (Or.inl ⟨?wBn33, ?yBn33⟩) (by assumption) ?rBn33
            case hiBn33 => (simp only [List.getElem?_toArray, List.getElem?_cons_succ, List.getElem?_cons_zero]; try rfl)
            case wBn33 => rfl
            case yBn33 => (intro w hSw; (try dsimp only at hSw); go_simp; (try with_reducible rfl))
            (try simp only [Act.put, List.setIfInBounds_toArray, List.set_cons_zero, List.set_cons_succ])
            refine wpAnyH_take (i := 34) (oi := ?oBn34) (v := ?vBn34) ?hiBn34 (by kernel_rfl) (by kernel_rfl) (by kernel_rfl) (fun _ _ _ h => h) (Or.inl ⟨?wBn34, ?yBn34⟩) (by assumption) ?rBn34
            case hiBn34 => (simp only [List.getElem?_toArray, List.getElem?_cons_succ, List.getElem?_cons_zero]; try rfl)
            case wBn34 => rfl
            case yBn34 => (intro w hSw; (try dsimp only at hSw); go_simp; (try with_reducible rfl))
            (try simp only [Act.put, List.setIfInBounds_toArray, List.set_cons_zero, List.set_cons_succ])
            refine wpAnyH_take (i := 35) (oi := ?oBn35) (v := ?vBn35) ?hiBn35 (by kernel_rfl) (by kernel_rfl) (by kernel_rfl) (fun _ _ _ h => h) (Or.inl ⟨?wBn35, ?yBn35⟩) (by assumption) ?rBn35
            case hiBn35 => (simp only [List.getElem?_toArray, List.getElem?_cons_succ, List.getElem?_cons_zero]; try rfl)
            case wBn35 => rfl
            case yBn35 => (intro w hSw; (try dsimp only at hSw); go_simp; (try with_reducible rfl))
            (try simp only [Act.put, List.setIfInBounds_toArray, List.set_cons_zero, List.set_cons_succ])
            refine wpAnyH_done (by kernel_rfl) ?_ _
            refine NoPanic.normal ?_
            have HB10 := Lib.hid (HB9.out.keepN (K0.out.trans' hk9))
            go_wp2_with fail
            go_roundw
            case rel => exact ⟨j + 1, by omega, by go_num, HB10.out⟩
            case measure => simp [intOf]; omega
        · have hlt2 : ¬ (j : Int) < n := by omega
          have hlt3 : decide ((j : Int) < n) = false := by simp; omega
          have HF0 := Lib.hid (fun W => sof_zero (p := p) (.pointer (some ⟨p, 0, none⟩)) W (.inr rfl))
          have HF9 := Lib.hid (sof_tot HB9.out.s.1 99)
          have HR9 : Hid (∀ r, OfIs K td 99 r → r = 0) := Lib.hid fun r hr => by
            rcases hr with ⟨_, h1, h2⟩ | ⟨h1, _⟩
            · have := HRG.out r h1; omega
            · exact h1
          have HT0 : Hid (∀ W, Keep NoF wr W → Calls Tryz.prog 32 #[.pointer (some ⟨p, 0, none⟩), .int .i64 0] W fun e w' => e = .returned (.int .i64 0) ∧ w' = W) := Lib.hid fun W hW => by
            have h := stid_any (HB9.out.keepN hW).s.1 0 (ki_of (by omega))
            rw [if_neg (fun e => by have := ses_pos HB9.out.s.1 0 e; omega)] at h
            exact h
          have HKP := Lib.hid HB9.out.s.kp
          go_wp2_with fail
          refine (HF0.out wr).mono ?_
          rintro e w' ⟨rfl, hw⟩
          obtain rfl : wr = w' := hw.symm
          go_wp2_with fail
          refine HF9.out.mono ?_
          rintro e w9 ⟨r, rfl, hr, hk9⟩
          obtain rfl := HR9.out r hr
          have HK9 := Lib.hid hk9
          clear hr hk9
          go_wp2_with fail
          refine (HT0.out w9 HK9.out).mono ?_
          rintro e w' ⟨rfl, hw⟩
          obtain rfl : w9 = w' := hw.symm
          go_wp2_with fail
          go_ret
          exact ⟨rfl, HKP.out.trans' HK9.out⟩

set_option linter.unusedVariables false
set_option maxRecDepth 100000 in
theorem lifted (os : Os) (started : os.Started) (H : Type) (enc : TypeId × Value → H) :
    ReturnsInHanded {} Tryz.checked os 10 .any (Rows.sessAllSpec.pre6 enc Tryz.prog Tryz.f10 Rows.sessAllRow.domain false) (Rows.sessAllSpec.post enc Tryz.prog Tryz.f10 false true false false) := by
  refine returnsInHanded_of_change (C := Tryz.checked) own started (by kernel_rfl) Tryz.func10
    (ChangeSpec.witness6 (enc := enc) (C := Tryz.checked) false ⟨#[], #[.int .i64 0, .slice none 0 0], []⟩ 8 (by kernel_rfl) (by kernel_rfl) (by kernel_rfl) (by kernel_rfl)) ?_
  intro W base args ds gs before hval0 hW hcnd _
  have hval : ∀ (j : Nat) t v, Tryz.f10.params[j]? = some t → args[j]? = some v → Value.okWide Tryz.prog W .any base t v := hval0
  have hW' := hW
  obtain ⟨p, q, hA0, hV, rfl, hfz, hnd⟩ := hW
  have hA : DataW.TrodAll enc Tryz.prog W 0 (fun _ => true) true Tryz.f10.params.toList args.toList ds p := hA0
  rw [Tryz.params10] at hA hval
  obtain ⟨v0, vs0, d0, ds0, p0, q0, hargs, rfl, rfl, h0, r0⟩ := trodAll_cons hA
  obtain ⟨v1, vs1, d1, ds1, p1, q1, rfl, rfl, rfl, h1, r1⟩ := trodAll_cons r0
  obtain ⟨rfl, rfl, rfl⟩ := trodAll_nil r1
  obtain rfl : args = #[v0, v1] := by cases args; simp_all
  obtain ⟨rfl, rfl⟩ := trodVars_none hV
  obtain ⟨a0, rfl, rfl, rfl, w0⟩ := open_int Tryz.underlying3 (hval 0 3 v0 rfl rfl) h0
  obtain ⟨a1, len1, cap1, rfl⟩ := okWide_slice Tryz.underlying47 (hval 1 47 v1 rfl rfl)
  have k1 := h1
  have lt1 : ∀ x ∈ p1, x.block < W.heap.size := by obtain ⟨m, hm⟩ := k1; exact DataW.trod_lt m _ _ _ hm
  obtain ⟨z1, w1⟩ := open_arg1 W base h1
  clear hA0 hval0
  refine (walk W a0 w0 a1 len1 cap1 z1 w1).mono fun e W' ⟨he, hk⟩ => ?_
  subst he
  have bel := Keep.below hk
  exact ⟨_, rfl, _, _, _, [], _, [], hW', trodAll_mk1 (shut_bool Tryz.underlying4 _), (trodAll_cons_mk (shut_int Tryz.underlying3 w0) (trodAll_cons_mk (Below.trod laidOut (by kernel_rfl) (of_decide_eq_true (by kernel_rfl)) k1 bel lt1) trodAll_mk0)), rfl, bel.frame _, fun h => by cases h⟩

theorem over : Rows.sessAllRow.holds Tryz.pinned (OpenSpec.ofChange Rows.sessAllSpec) :=
  OpenClaim.holds_of_wide 10 Tryz.f10 rfl rfl rfl rfl rfl rfl rfl ⟨rfl, rfl, rfl, rfl, rfl⟩ rfl rfl rfl rfl rfl (by kernel_rfl) Tryz.func10 (by kernel_rfl)
    (of_decide_eq_true (by kernel_rfl)) (by unfold Func.isWrapper; rw [if_neg (of_decide_eq_false (by kernel_rfl))]; exact ⟨rfl, rfl⟩)
    (fun os started H enc _ => lifted os started H enc)

/-- The statement. -/
theorem proved : Rows.SessAllSaid := over
#print axioms proved
end Go.Proofs.YtdbgplnjppaimaaGreat.sessAll
