/- LockAll: the law returns true and changes nothing that was there. No conditions. -/
import Derived.Test.YtdbgplnjppaimaaGreatLockG
import Derived.Deep.CutRange
import Derived.Deep.CutBlock
import Derived.Test.YtdbgplnjppaimaaGreatRows
import Derived.WalkKit
import Derived.ProofKit
import Derived.OpenShut
import Derived.ShutString
import Derived.ChangeOld
import Derived.Below
namespace Go.Proofs.YtdbgplnjppaimaaGreat.lockAll
open Go Go.ChangeShapes Go.WideShapes Go.ChangeAt Go.RowKit
open Go.ChangeMaps (open_string shut_string)

theorem own : ownKnob Tryz.prog.godebug = none := by kernel_rfl
theorem laidOut : laidOutB Tryz.prog = true := by kernel_rfl

open Go.Proofs Go.RowKit Go.Maps Go.Sort Go.Shelf
theorem open_arg0 {H : Type} {enc : TypeId × Value → H} {a : Option Addr} {len cap : Nat} {d : DataW H} {p : List MemPlace} (W : World) (_base : Nat)
    (h : DataW.Trod enc Tryz.prog W 0 (fun _ => true) true 47 (.slice a len cap) d p) : ∃ z, IsOpsQ W a len cap z := open_opsQ h
theorem tmodN (x : Int) (n : Nat) (hn : 0 < n) : -(n : Int) < x.tmod n ∧ x.tmod n < n := by
  have h1 := Int.tmod_lt_of_pos x (b := (n : Int)) (by omega)
  refine ⟨?_, h1⟩
  rcases Int.le_total 0 x with h | h
  · have := Int.tmod_nonneg (n : Int) h; omega
  · have h3 := Int.tmod_lt_of_pos (-x) (b := (n : Int)) (by omega)
    rw [Int.neg_tmod] at h3; omega
theorem modN (x : Int) (n : Nat) (hn : 0 < n) : ∃ k : Nat, (x.tmod n + n) % n = k ∧ k < n := by
  have h1 := Int.emod_nonneg (x.tmod n + n) (b := (n : Int)) (by omega)
  have h2 := Int.emod_lt_of_pos (x.tmod n + n) (b := (n : Int)) (by omega)
  exact ⟨((x.tmod n + n) % n).toNat, by omega, by omega⟩
theorem mod5q (x : Int) : (-5 < x.tmod 5 ∧ x.tmod 5 < 5) ∧ ∃ k : Nat, (x.tmod 5 + 5) % 5 = k ∧ k < 5 := ⟨tmodN x 5 (by omega), modN x 5 (by omega)⟩
theorem rise_len {lo hi : Int} : ∀ {K : List Int}, K.Pairwise (· < ·) → (∀ y ∈ K, lo ≤ y ∧ y ≤ hi) → lo ≤ hi + 1 → (K.length : Int) ≤ hi - lo + 1 := by
  intro K
  induction K generalizing lo with
  | nil => intro _ _ h; simp; omega
  | cons a l ih =>
    intro h1 h2 _
    have ha := h2 a (.head _)
    have := ih (lo := a + 1) (List.pairwise_cons.1 h1).2 (fun y hy => ⟨by have := (List.pairwise_cons.1 h1).1 y hy; omega, (h2 y (.tail _ hy)).2⟩) (by omega)
    simp; omega
/-- The state at the head. -/
def LB (w wr : World) (p i : Nat) (v : Value) : Prop := ∃ (nb : Nat) (cn : Int → Int) (ps : Int → List PutV) (ag : Int → Int) (K : List Int) (sp : Int → Option Addr × Nat × Nat), nb ≤ 6 * i ∧ K.Pairwise (· < ·) ∧ (∀ y, y ∈ K ↔ 1 ≤ cn y) ∧ (∀ y ∈ K, 0 ≤ y ∧ y ≤ 4 ∧ 0 ≤ ag y ∧ ag y ≤ i) ∧
  (∀ y, ∀ q ∈ ps y, q.q.size ≤ maxLen ∧ q.b.size ≤ maxLen) ∧ LA NoF w wr p nb cn ps ag K sp ps (K.map (gv sp cn ag)) v
/-- The row has its place for x, nothing done yet. -/
def LP (D : Nat → Prop) (w wr : World) (p nb : Nat) (cn0 cn : Int → Int) (ps0 ps : Int → List PutV) (ag0 ag : Int → Int) (K0 : List Int) (x : Int) (k n : Nat) (v : Value) : Prop :=
  ∃ (K : List Int) (sp : Int → Option Addr × Nat × Nat) (ag4 : Int → Int), K.Pairwise (· < ·) ∧ (∀ y, y ∈ K ↔ y = x ∨ y ∈ K0) ∧ (∃ hk : k < K.length, K[k] = x) ∧ K.length = n ∧ (∀ y, y ≠ x → ag4 y = ag0 y) ∧ LA D w wr p nb cn ps ag K sp ps0 (K.map (gv sp cn0 ag4)) v
theorem glen {K : List Int} {sp : Int → Option Addr × Nat × Nat} {cn ag : Int → Int} {n : Nat} (h : K.length = n) : (K.map (gv sp cn ag)).length = n := by rw [List.length_map, h]
/-- In the midst of a tick. -/
def midG (sp : Int → Option Addr × Nat × Nat) (cn ag : Int → Int) (K : List Int) (j : Nat) : List GV := (K.take j).map (gv sp cn (fun z => ag z + 1)) ++ (K.drop j).map (gv sp cn ag)
section
variable (sp : Int → Option Addr × Nat × Nat) (cn ag : Int → Int) (K : List Int)
theorem midG_zero : midG sp cn ag K 0 = K.map (gv sp cn ag) := by unfold midG; simp
theorem midG_end {n : Nat} (hn : K.length = n) : midG sp cn ag K n = K.map (gv sp cn (fun z => ag z + 1)) := by unfold midG; rw [List.take_of_length_le (by omega), List.drop_of_length_le (by omega)]; simp
theorem midG_len (j : Nat) {n : Nat} (hn : K.length = n) : (midG sp cn ag K j).length = n := by
  unfold midG; rw [List.length_append, List.length_map, List.length_map, List.length_take, List.length_drop]; omega
theorem midG_get (j : Nat) (hj : j < K.length) (h : j < (midG sp cn ag K j).length) : (midG sp cn ag K j)[j] = gv sp cn ag K[j] := by
  have e : (midG sp cn ag K j)[j]? = some (gv sp cn ag K[j]) := by
    unfold midG
    rw [List.getElem?_append_right (by simp; omega)]
    have e : j - (List.map (gv sp cn fun z => ag z + 1) (List.take j K)).length = 0 := by simp; omega
    rw [e]; simp [List.getElem?_eq_getElem hj]
  exact Option.some.inj ((List.getElem?_eq_getElem h).symm.trans e)
theorem midG_set (j : Nat) (hj : j < K.length) : (midG sp cn ag K j).set j (gv sp cn (fun z => ag z + 1) K[j]) = midG sp cn ag K (j + 1) := by
  unfold midG
  rw [List.set_append_right _ _ (by simp; omega)]
  have e : j - (List.map (gv sp cn fun z => ag z + 1) (List.take j K)).length = 0 := by simp; omega
  rw [e, List.drop_eq_getElem_cons hj, List.map_cons, List.set_cons_zero, List.take_succ_eq_append_getElem hj, List.map_append, List.append_assoc]
  rfl
theorem midG_get2 (j : Nat) (hj : j < K.length) (h : j < (midG sp cn ag K (j + 1)).length) : (midG sp cn ag K (j + 1))[j] = gv sp cn (fun z => ag z + 1) K[j] := by
  have e := midG_set sp cn ag K j hj
  simp only [← e, List.getElem_set_self]
end
/-- In the midst of a tick: the rows, the lock. -/
def TG (w W1 wq : World) (p nb : Nat) (cn : Int → Int) (ps : Int → List PutV) (ag : Int → Int) (K : List Int) (sp : Int → Option Addr × Nat × Nat) (old : Int → Bool) (v ov : Value) (m : Nat) : Prop :=
  RowP 2 W1.heap.size wq ov ((K.take m).filter old) ∧ LA (fun k => ov.ownBlock = some k) w wq p nb cn ps ag K sp ps (midG sp cn ag K m) v ∧ W1.heap.size ≤ wq.heap.size
theorem flat_len10 {ps : Int → List PutV} (h : ∀ y, (ps y).length ≤ 10) : ∀ (l : List Int) {n : Nat}, l.length = n → (l.flatMap ps).length ≤ 10 * n
  | [], _, e => by subst e; simp
  | y :: l, _, e => by
    subst e
    have := flat_len10 h l rfl
    have := h y
    rw [List.flatMap_cons, List.length_append, List.length_cons]; omega
/-- In the midst of the last loop: all numbers, all messages. -/
def FG (w W1 wq : World) (p nb : Nat) (cn : Int → Int) (ps : Int → List PutV) (ag : Int → Int) (K : List Int) (sp : Int → Option Addr × Nat × Nat) (v tv av : Value) (j : Nat) : Prop :=
  RowP 2 W1.heap.size wq tv (K.take j) ∧ OwnP wq av ((K.take j).flatMap ps) ∧ (∀ g, av.ownBlock = some g → W1.heap.size ≤ g ∧ tv.ownBlock ≠ some g) ∧ LA (fun k => tv.ownBlock = some k ∨ av.ownBlock = some k) w wq p nb cn ps ag K sp ps (K.map (gv sp cn ag)) v ∧ Keep NoF W1 wq
theorem fg_next {w W1 wq W : World} {p nb : Nat} {cn : Int → Int} {ps : Int → List PutV} {ag : Int → Int} {K : List Int} {sp : Int → Option Addr × Nat × Nat} {v tv av : Value} {j : Nat} (h : FG w W1 wq p nb cn ps ag K sp v tv av j) (kz : Keep (fun k => tv.ownBlock = some k ∨ av.ownBlock = some k) wq W)
    {a5 a6 : Option Addr} {n5 c5 n6 c6 : Nat} {y : Int} (hy : K.take (j + 1) = K.take j ++ [y]) (hn5 : (K.take j).length + 1 = n5) (hT : W.ownsRow 0 2 1 (.slice a5 n5 c5) n5 ((K.take j).flatMap iC ++ iC y)) (hn6 : ((K.take j).flatMap ps).length + (ps y).length = n6) (hL : W.ownsRow 0 28 2 (.slice a6 n6 c6) n6 (pvs ((K.take j).flatMap ps) ++ pvs (ps y)))
    (hf1 : ∀ g, (Value.slice a5 n5 c5).ownBlock = some g → tv.ownBlock = some g ∨ wq.heap.size ≤ g) (hf2 : ∀ g, (Value.slice a6 n6 c6).ownBlock = some g → av.ownBlock = some g ∨ wq.heap.size ≤ g) (hne : ∀ g, (Value.slice a6 n6 c6).ownBlock = some g → (Value.slice a5 n5 c5).ownBlock ≠ some g) :
    FG w W1 W p nb cn ps ag K sp v (.slice a5 n5 c5) (.slice a6 n6 c6) (j + 1) := by
  obtain ⟨h1, h2, h3, h4, h5⟩ := h
  have hlo := h1.lo
  have hl1 : (K.take (j + 1)).length = n5 := by rw [hy, List.length_append]; exact hn5
  have hl2 : ((K.take (j + 1)).flatMap ps).length = n6 := by rw [hy, List.flatMap_append, List.length_append, ← hn6]; simp
  have hlT := row_lt hT
  have hlL := row_lt hL
  refine ⟨⟨a5, c5, by rw [hl1], by rw [hl1, hy, List.flatMap_append]; simpa using hT, fun g hg => ?_⟩, ?_, fun g hg => ⟨?_, hne g hg⟩, h4.other kz (fun _ _ e => e) (fun k e => ⟨?_, ?_⟩), h5.trans kz (fun _ _ f => f) (fun k hk e => ?_)⟩
  · rcases hf1 g hg with f | f
    · exact hlo g f
    · have := h5.size; omega
  · unfold OwnP
    rw [hl2, hy, List.flatMap_append, pvs_flat, List.flatMap_append, ← pvs_flat, ← pvs_flat]
    simpa using hL
  · rcases hf2 g hg with f | f
    · exact (h3 g f).1
    · have := h5.size; omega
  · rcases e with e | e
    · exact (hf1 k e).elim (fun f => .inl (.inl f)) .inr
    · exact (hf2 k e).elim (fun f => .inl (.inr f)) .inr
  · rcases e with e | e
    · exact hlT k e
    · exact hlL k e
  · rcases e with e | e
    · have := hlo k e; omega
    · have := (h3 k e).1; omega
theorem FG.keepN {w W1 wq W : World} {p nb : Nat} {cn : Int → Int} {ps : Int → List PutV} {ag : Int → Int} {K : List Int} {sp : Int → Option Addr × Nat × Nat} {v tv av : Value} {j : Nat} (h : FG w W1 wq p nb cn ps ag K sp v tv av j) (hk : Keep NoF wq W) : FG w W1 W p nb cn ps ag K sp v tv av j :=
  ⟨h.1.keep hk (fun _ _ f => f), h.2.1.keep hk (fun _ _ f => f), h.2.2.1, h.2.2.2.1.keepN hk, h.2.2.2.2.trans' hk⟩
theorem kd_row {D : Nat → Prop} {E : TypeId} {B : Nat} {w w' : World} {v : Value} {L : List Int} (h : RowP E B w v L) (hk : KD D w w') (hD : ∀ g, v.ownBlock = some g → D g) : RowP E B w' v L := by
  obtain ⟨ao, cp, e, ⟨h1, h2⟩, h3⟩ := h
  refine ⟨ao, cp, e, ⟨h1, ?_⟩, h3⟩
  rcases h2 with h2 | ⟨g, cap, cur, e1, hb, hg, r⟩
  · exact .inl h2
  · exact .inr ⟨g, cap, cur, e1, hb, by rw [hk g (hD g (by rw [e1]; rfl))]; exact hg, r⟩
set_option maxHeartbeats 32000000 in
set_option maxRecDepth 8000 in
theorem walk (w : World) (a0 : Option Addr) (len0 cap0 : Nat) (z0 : List OpQ) (h0 : IsOpsQ w a0 len0 cap0 z0) :
    Calls Tryz.prog 7 #[.slice a0 len0 cap0] w fun e w' => e = .returned (.bool true) ∧ Keep NoF w w' := by
  obtain ⟨hl0, hok, s0⟩ := h0
  have c0 := s0.1; have c0m := s0.2.1
  rw [hl0] at c0
  unfold maxLen at c0m
  have S0 := Lib.hid s0; have HL0 := Lib.hid hl0; have HOK := Lib.hid hok
  clear s0 hl0 hok
  go_enter Tryz.func7, Tryz.ntmps7
  go_wp2_with fail
  refine (begun13_any w).mono ?_
  rintro e w1 ⟨rfl, hk⟩
  have K1 := Lib.hid hk
  clear hk
  go_wp2_with fail
  refine (la_new K1.out).mono ?_
  rintro e w2 ⟨p, rfl, hS⟩
  have S2 := Lib.hid hS
  clear hS
  go_wp2_with fail
  go_loopw [5, 6] (fun v iv wr => ∃ (i : Nat), i ≤ min len0 60 ∧ iv = .int .i64 i ∧ LB w wr p i v) (fun _ iv _ => 60 - (intOf iv).toNat)
  case atStart => exact ⟨0, Nat.zero_le _, rfl, 0, _, _, _, [], _, Nat.zero_le _, List.Pairwise.nil, fun y => ⟨nofun, fun e => by omega⟩, nofun, fun _ _ h => (by cases h), S2.out⟩
  case round =>
    obtain ⟨i, hi, rfl, nb, cn, ps, ag, K, sp, hnb, hst, hkm, hrg, hsz, hA⟩ := hrel
    have HA := Lib.hid hA; have HRG := Lib.hid hrg; have HSTR := Lib.hid hst; have HKM := Lib.hid hkm; have HSZ := Lib.hid hsz
    have KP := Lib.hid hA.kp
    obtain ⟨n, hn⟩ : ∃ n, K.length = n := ⟨_, rfl⟩
    obtain ⟨ao, cp, rfl, hcp, hcm, hro⟩ := hA.slice (glen hn)
    have HN := Lib.hid hn
    have hn5 : n ≤ 5 := by
      have := rise_len (lo := 0) (hi := 4) hst (fun y hy => ⟨(hrg y hy).1, (hrg y hy).2.1⟩) (by omega)
      omega
    clear hA hro hn hrg hst hkm hsz
    go_upto_region 7 with fail
    go_cut [29] from 22 to 29 (fun v wx => v = .bool (decide (i < len0 ∧ i < 60)) ∧ wr = wx)
    case first =>
      by_cases hlt : i < len0
      · have hlt2 : (i : Int) < len0 := by omega
        have hlt3 : decide (i < len0) = true := by simp [hlt]
        by_cases h60 : i < 60
        · have h60b : (i : Int) < 60 := by omega
          have h60c : decide ((i : Int) < 60) = true := by simp [h60b]
          have HG : Hid (decide (i < len0 ∧ i < 60) = true) := Lib.hid (decide_eq_true ⟨hlt, h60⟩)
          go_wp2_with fail
          go_meet
          exact ⟨by rw [HG.out], rfl⟩
        · have h60b : ¬ (i : Int) < 60 := by omega
          have h60c : decide ((i : Int) < 60) = false := by simp [h60b]
          have HG : Hid (decide (i < len0 ∧ i < 60) = false) := Lib.hid (decide_eq_false (fun e => h60 e.2))
          go_wp2_with fail
          go_meet
          exact ⟨by rw [HG.out], rfl⟩
      · have hlt2 : ¬ (i : Int) < len0 := by omega
        have hlt3 : decide (i < len0) = false := by simp [hlt]
        have HG : Hid (decide (i < len0 ∧ i < 60) = false) := Lib.hid (decide_eq_false (fun e => hlt e.1))
        go_wp2_with fail
        go_meet
        exact ⟨by rw [HG.out], rfl⟩
    case rest =>
    obtain ⟨rfl, rfl⟩ := hcut
    by_cases hgo : i < len0 ∧ i < 60
    · rw [decide_eq_true hgo]
      obtain ⟨hlt, h60⟩ := hgo
      have hlt2 : (i : Int) < len0 := by omega
      have hlt4 : decide (len0 ≤ i) = false := by simp; omega
      obtain ⟨gl, ol, rfl, b0, b1, b2, b3, b4⟩ := opQ_at (S0.out.keep KP.out (fun _ _ f => f)) i (by rw [HL0.out]; exact hlt)
      have hPok := HOK.out _ (List.getElem_mem (by rw [HL0.out]; exact hlt : i < z0.length))
      generalize z0[i]'(by rw [HL0.out]; exact hlt) = Q at b0 b1 b2 b3 b4 hPok
      obtain ⟨kd, T0, U0, ⟨pq, pb⟩⟩ := Q
      dsimp only at b0 b1 b2 b3 b4
      obtain ⟨bk, bT, _, _, _⟩ := hPok
      dsimp only at bk bT
      unfold In64 at bk bT
      obtain ⟨hTt, t, ht, ht5⟩ := mod5q T0
      go_upto_region 10 with fail
      obtain ⟨W0, hW0⟩ : ∃ W, wr.alloc (.cells #[.int .i64 kd, .int .i64 T0, .int .i64 U0, .string pq, .string pb] 50 (0, 0)) = W := ⟨_, rfl⟩
      obtain ⟨ob, hob⟩ : ∃ ob, wr.heap.size = ob := ⟨_, rfl⟩
      have HK0 : Hid (Keep NoF wr W0) := Lib.hid (by rw [← hW0]; exact (Keep.refl NoF wr).alloc _)
      have bo : W0.heap[ob]? = some (.cells #[.int .i64 kd, .int .i64 T0, .int .i64 U0, .string pq, .string pb] 50 (0, 0)) := by rw [← hW0, ← hob]; exact heap_new wr _
      have HOB := Lib.hid hob; have BO := Lib.hid bo
      have co0 := cell_of_heap bo 0
      have co1 := cell_of_heap bo 1
      simp at co0 co1
      rw [hW0, hob]
      clear hW0 hob bo b0 b1 b2 b3 b4
      go_upto_region 11 with fail
      (try rw [ht])
      clear ht hTt co1
      go_cut [9] from 41 to 49 (fun v wx => ∃ b, v = .pointer (some ⟨b, 0, none⟩) ∧ wx.heap[b]? = some (.cells #[.string (cutT pq 8), .string (cutT pb 60)] 28 (0, 0)) ∧ Keep NoF W0 wx ∧ W0.heap.size ≤ b)
      case first =>
        have CU1 := Lib.hid (fun W => cut_any pq 8 W (by decide)); have CU2 := Lib.hid (fun W => cut_any pb 60 W (by decide))
        have co3 := cell_of_heap BO.out 3
        have co4 := cell_of_heap BO.out 4
        simp at co3 co4
        have HC3 := Lib.hid co3; have HC4 := Lib.hid co4
        go_region_held3 (fun W' : World => W'.cell? ⟨ob, 3, none⟩ = some (.string pq) ∧ W'.cell? ⟨ob, 4, none⟩ = some (.string pb))
          (first | assumption | go_keep)
          (first
          | (go_at_call_of 24 pq; refine (CU1.out _).mono ?_; rintro e wz ⟨rfl, hw⟩; have hws := hw.symm; clear hw; subst hws)
          | (go_at_call_of 24 pb; refine (CU2.out _).mono ?_; rintro e wz ⟨rfl, hw⟩; have hws := hw.symm; clear hw; subst hws))
        all_goals
          (try go_wp2_with fail)
          go_meet
          exact ⟨_, rfl, by first | exact heap_new _ _ | simp, by first | exact (Keep.refl NoF W0).alloc _ | exact ((Keep.refl NoF W0).alloc _).drew | exact (Keep.refl NoF W0).drew.alloc _, by simp⟩
      case rest =>
        obtain ⟨pbk, rfl, hpb, hk1, hpl⟩ := hcut
        obtain ⟨W1, rfl⟩ : ∃ W, W = wc := ⟨_, rfl⟩
        obtain ⟨q8, hq8⟩ : ∃ q, cutT pq 8 = q := ⟨_, rfl⟩
        obtain ⟨b60, hb60⟩ : ∃ q, cutT pb 60 = q := ⟨_, rfl⟩
        have hqs : q8.size ≤ maxLen ∧ b60.size ≤ maxLen := by rw [← hq8, ← hb60]; exact cutT_le pq pb
        rw [hq8, hb60] at hpb
        have hoW : W1.heap[ob]? = some (.cells #[.int .i64 kd, .int .i64 T0, .int .i64 U0, .string pq, .string pb] 50 (0, 0)) := by rw [hk1.block ob (lt_of_heap BO.out) (fun f => f)]; exact BO.out
        have HPB := Lib.hid hpb; have HOW := Lib.hid hoW; have HQS := Lib.hid hqs
        have HA1 : Hid (LA (fun k => k = ob ∨ k = pbk) w W1 p nb cn ps ag K sp ps (K.map (gv sp cn ag)) (.slice ao n cp)) := Lib.hid (HA.out.guard (HK0.out.trans' hk1) (fun k e => by
          have h1 := lt_of_heap hoW; have h2 := lt_of_heap hpb; have h3 := HOB.out; have h4 := HK0.out.size
          rcases e with rfl | rfl
          · exact ⟨by omega, h1⟩
          · exact ⟨by omega, h2⟩))
        have co0 := cell_of_heap hoW 0
        simp at co0
        clear hq8 hb60 hpb hk1 hpl hoW hqs
        obtain ⟨x, hx⟩ : ∃ x : Int, (t : Int) = x := ⟨_, rfl⟩
        rw [hx]
        have hxb : 0 ≤ x ∧ x ≤ 4 := by omega
        have hxk : KI x := ki_small (by omega)
        have HX := Lib.hid hxk
        clear hx hxk ht5
        go_wp2_with fail
        go_loopw [10] (fun kv wq => ∃ k : Nat, k ≤ n ∧ kv = .int .i64 k ∧ (∀ y ∈ K.take k, y < x) ∧ W1 = wq) (fun kv _ => n - (intOf kv).toNat)
        case atStart => exact ⟨0, Nat.zero_le _, rfl, by simp, rfl⟩
        case round =>
          obtain ⟨k, hkn, rfl, htk, rfl⟩ := hrel
          have HTK := Lib.hid htk
          clear htk
          go_upto_region 13 with fail
          go_cut [62] from 50 to 62 (fun v wx => v = .bool (cL K x k) ∧ W1 = wx)
          case first =>
            by_cases hlt : k < n
            · have hlt2 : (k : Int) < n := by omega
              have hil3 : decide (n ≤ k) = false := by simp; omega
              obtain ⟨g1, rfl, _, d1, _⟩ := HA1.out.at k (by rw [glen HN.out]; exact hlt)
              simp only [List.getElem_map, gv] at d1
              have hcl := cL_in (x := x) (by rw [HN.out]; exact hlt : k < K.length)
              generalize K[k]'(by rw [HN.out]; exact hlt) = y at d1 hcl
              by_cases hyx : y < x
              · have hdy : decide (y < x) = true := decide_eq_true hyx
                have HCL : Hid (cL K x k = true) := Lib.hid (by rw [hcl, hdy])
                clear hcl
                go_wp2_with fail
                go_meet
                exact ⟨by rw [HCL.out], rfl⟩
              · have hdy : decide (y < x) = false := decide_eq_false hyx
                have HCL : Hid (cL K x k = false) := Lib.hid (by rw [hcl, hdy])
                clear hcl
                go_wp2_with fail
                go_meet
                exact ⟨by rw [HCL.out], rfl⟩
            · have hlt2 : ¬ (k : Int) < n := by omega
              have hlt3 : decide (k < n) = false := by simp [hlt]
              have HCL : Hid (cL K x k = false) := Lib.hid (cL_out (by rw [HN.out]; omega))
              go_wp2_with fail
              go_meet
              exact ⟨by rw [HCL.out], rfl⟩
          case rest =>
            obtain ⟨rfl, rfl⟩ := hcut
            obtain ⟨bl, hbl⟩ : ∃ b, cL K x k = b := ⟨_, rfl⟩
            rw [hbl]
            cases bl with
            | true =>
              have hk1 := cL_lt hbl
              rw [HN.out] at hk1
              have HTK2 := Lib.hid (take_less HTK.out hbl)
              clear hbl
              go_wp2_with fail
              go_roundw
              case rel => exact ⟨k + 1, by omega, by go_num, HTK2.out, trivial⟩
              case measure => simp [intOf]; omega
            | false =>
              have HBL := Lib.hid hbl
              have HIN : Hid (x ∈ K ↔ ∃ hk : k < K.length, K[k] = x) := Lib.hid (in_at HSTR.out HTK.out hbl)
              clear hbl
              obtain ⟨bin, hbin⟩ : ∃ b, decide (x ∈ K) = b := ⟨_, rfl⟩
              have HBIN := Lib.hid hbin
              clear hbin
              go_upto_region 15 with fail
              go_cut [11] from 65 to 77 (fun v wx => v = .bool bin ∧ W1 = wx)
              case first =>
                by_cases hlt : k < n
                · have hlt2 : (k : Int) < n := by omega
                  have hil3 : decide (n ≤ k) = false := by simp; omega
                  obtain ⟨g1, rfl, _, d1, _⟩ := HA1.out.at k (by rw [glen HN.out]; exact hlt)
                  simp only [List.getElem_map, gv] at d1
                  have hin := HIN.out
                  have hkl : k < K.length := by rw [HN.out]; exact hlt
                  obtain ⟨y, hy⟩ : ∃ y, K[k] = y := ⟨_, rfl⟩
                  rw [hy] at d1
                  by_cases hyx : y = x
                  · have hb : bin = true := by rw [← HBIN.out]; exact decide_eq_true (hin.2 ⟨hkl, hy.trans hyx⟩)
                    subst hyx hb
                    clear hin hy
                    go_wp2_with fail
                    go_meet
                    exact ⟨rfl, rfl⟩
                  · have hb : bin = false := by rw [← HBIN.out]; exact decide_eq_false (fun e => by obtain ⟨_, e2⟩ := hin.1 e; exact hyx (hy.symm.trans e2))
                    have hne : (y == x) = false := by simp [hyx]
                    subst hb
                    clear hin hy
                    go_wp2_with fail
                    go_meet
                    exact ⟨rfl, rfl⟩
                · have hlt2 : ¬ (k : Int) < n := by omega
                  have hlt3 : decide (k < n) = false := by simp [hlt]
                  have hb : bin = false := by
                    rw [← HBIN.out]; refine decide_eq_false (fun e => ?_)
                    obtain ⟨hk, _⟩ := HIN.out.1 e
                    rw [HN.out] at hk; exact hlt hk
                  subst hb
                  go_wp2_with fail
                  go_meet
                  exact ⟨rfl, rfl⟩
              case rest =>
                obtain ⟨rfl, rfl⟩ := hcut
                have HIK : Hid (bin = true → ∃ hk : k < K.length, K[k] = x) := Lib.hid fun e => HIN.out.1 (of_decide_eq_true (HBIN.out.trans e))
                have HIO : Hid (bin = false → x ∉ K) := Lib.hid fun e => of_decide_eq_false (HBIN.out.trans e)
                go_upto_region 16 with fail
                have HK60 : i < 60 := h60
                by_cases hk0 : kd = 0
                · as_aux_lemma =>
                  subst hk0
                  have cp0 := cell_of_heap HPB.out 0
                  have cp1 := cell_of_heap HPB.out 1
                  simp at cp0 cp1
                  cases bin
                  · have hxn := HIO.out rfl
                    have hcr := HA1.out.cr x
                    have hc0 : cn x = 0 := by have : ¬ 1 ≤ cn x := fun e => hxn ((HKM.out x).2 e); omega
                    have hp0 : ps x = [] := by have : (ps x).length = 0 := by omega
                                               exact List.eq_nil_of_length_eq_zero this
                    have HP := Lib.hid (la_put HA1.out x HX.out (by omega) (by omega) ⟨q8, b60⟩)
                    have HXN := Lib.hid hxn; have HC0 := Lib.hid hc0; have HP0 := Lib.hid hp0
                    clear hxn hcr hc0 hp0
                    go_wp2_with fail
                    refine HP.out.mono ?_
                    rintro e w3 ⟨rfl, h3, d3⟩
                    have HA3 := Lib.hid h3
                    have hoW : w3.heap[ob]? = some (.cells #[.int .i64 0, .int .i64 T0, .int .i64 U0, .string pq, .string pb] 50 (0, 0)) := by rw [d3 ob (.inl rfl)]; exact HOW.out
                    have hpW : w3.heap[pbk]? = some (.cells #[.string q8, .string b60] 28 (0, 0)) := by rw [d3 pbk (.inr rfl)]; exact HPB.out
                    replace HOW := Lib.hid hoW; replace HPB := Lib.hid hpW
                    clear hoW hpW
                    clear h3 d3 co0 cp0 cp1
                    have co0 := cell_of_heap HOW.out 0
                    simp at co0
                    have HRK : Hid (w3.ownsRow 0 53 4 (.slice ao n cp) n ((K.map (gv sp cn ag)).flatMap gC)) := Lib.hid (by obtain ⟨ao', cp', e, _, _, h1⟩ := HA3.out.slice (glen HN.out); cases e; exact h1)
                    have hcpb := row_cap HRK.out
                    unfold maxLen at hcpb
                    go_upto_region 33 with fail
                    clear co0
                    go_cut [5] from 151 to 162 (fun v wx => ∃ a4 c4, v = .slice a4 (n + 1) c4 ∧ LP (fun k => k = ob ∨ k = pbk) w wx p (nb + 1) cn (cnUp cn x) ps (psUp ps x ⟨q8, b60⟩) ag (agUp ag x) K x k (n + 1) v ∧ Keep NoF w3 wx)
                    case first =>
                      have K0 := Lib.hid ((Keep.refl NoF w3).drew)
                      have SRC1 : Hid (∀ W, Keep NoF w3 W → Src Tryz.prog 4 48 (.slice ao k cp) k (((K.map (gv sp cn ag)).take k).flatMap gC) W) := Lib.hid fun W hW => src_upto gC_len gC_one Tryz.underlying48 (row_keep HRK.out hW (fun _ _ f => f)) (glen HN.out) k (by omega) cp
                      have SRC2 : Hid (∀ W, Keep NoF w3 W → Src Tryz.prog 4 48 (.slice (fromA ao k cp 4) (n - k) (cp - k)) (n - k) (((K.map (gv sp cn ag)).drop k).flatMap gC) W) := Lib.hid fun W hW => src_from gC_len gC_one Tryz.underlying48 (row_keep HRK.out hW (fun _ _ f => f)) (glen HN.out) k (by omega) (cp - k)
                      have HHI := Lib.hid (fun W => run_upto (P := Tryz.prog) Tryz.underlying48 infoG ao n cp k (by omega) W)
                      have HLO := Lib.hid (fun W => run_from (P := Tryz.prog) Tryz.underlying48 infoG ao n cp k (by omega) W)
                      refine wp_region_noPanic ?_
                      refine wp_region_held_drew (S := (fun _ : World => True)) (by kernel_rfl) (trivial) (fun hHeld => ?_)
                      refine wpAnyH_take (i := 0) (oi := ?oP00) (v := ?vP00) ?hiP00 (by kernel_rfl) (by kernel_rfl) (by kernel_rfl) (fun _ _ _ h => h) (Or.inl ⟨?wP00, ?yP00⟩) (by assumption) ?rP00
                      case hiP00 => (simp only [List.getElem?_toArray, List.getElem?_cons_zero]; try rfl)
                      case wP00 => rfl
                      case yP00 => (intro w hSw; (try dsimp only at hSw); go_simp; (try with_reducible rfl))
                      (try simp only [Act.put, List.setIfInBounds_toArray, List.set_cons_zero, List.set_cons_succ])
                      refine wpAnyH_take (i := 1) (oi := ?oP01) (v := ?vP01) ?hiP01 (by kernel_rfl) (by kernel_rfl) (by kernel_rfl) (fun _ _ _ h => h) (Or.inl ⟨?wP01, ?yP01⟩) (by assumption) ?rP01
                      case hiP01 => (simp only [List.getElem?_toArray, List.getElem?_cons_succ, List.getElem?_cons_zero]; try rfl)
                      case wP01 => rfl
                      case yP01 => (intro w hSw; (try dsimp only at hSw); go_simp; (try with_reducible rfl))
                      (try simp only [Act.put, List.setIfInBounds_toArray, List.set_cons_zero, List.set_cons_succ])
                      refine wpAnyH_take (i := 2) (oi := ?oP02) (v := .slice ao k cp) ?hiP02 (by kernel_rfl) (by kernel_rfl) (by kernel_rfl) (fun _ _ _ h => h) (Or.inl ⟨?wP02, ?yP02⟩) (by assumption) ?rP02
                      case hiP02 => (simp only [List.getElem?_toArray, List.getElem?_cons_succ, List.getElem?_cons_zero]; try rfl)
                      case wP02 => rfl
                      case yP02 => (intro w hSw; exact slice_yields rfl (HHI.out w))
                      (try simp only [Act.put, List.setIfInBounds_toArray, List.set_cons_zero, List.set_cons_succ])
                      refine wpAnyH_take (i := 4) (oi := ?oP04) (v := ?vP04) ?hiP04 (by kernel_rfl) (by kernel_rfl) (by kernel_rfl) (fun _ _ _ h => h) (Or.inl ⟨?wP04, ?yP04⟩) (by assumption) ?rP04
                      case hiP04 => (simp only [List.getElem?_toArray, List.getElem?_cons_succ, List.getElem?_cons_zero]; try rfl)
                      case wP04 => rfl
                      case yP04 => (intro w hSw; (try dsimp only at hSw); go_simp; (try with_reducible rfl))
                      (try simp only [Act.put, List.setIfInBounds_toArray, List.set_cons_zero, List.set_cons_succ])
                      refine wpAnyH_take (i := 5) (oi := ?oP05) (v := ?vP05) ?hiP05 (by kernel_rfl) (by kernel_rfl) (by kernel_rfl) (fun _ _ _ h => h) (Or.inl ⟨?wP05, ?yP05⟩) (by assumption) ?rP05
                      case hiP05 => (simp only [List.getElem?_toArray, List.getElem?_cons_succ, List.getElem?_cons_zero]; try rfl)
                      case wP05 => rfl
                      case yP05 => (intro w hSw; (try dsimp only at hSw); go_simp; (try with_reducible rfl))
                      (try simp only [Act.put, List.setIfInBounds_toArray, List.set_cons_zero, List.set_cons_succ])
                      refine wpAnyH_take (i := 8) (oi := ?oP08) (v := ?vP08) ?hiP08 (by kernel_rfl) (by kernel_rfl) (by kernel_rfl) (fun _ _ _ h => h) (Or.inl ⟨?wP08, ?yP08⟩) (by assumption) ?rP08
                      case hiP08 => (simp only [List.getElem?_toArray, List.getElem?_cons_succ, List.getElem?_cons_zero]; try rfl)
                      case wP08 => rfl
                      case yP08 => (intro w hSw; (try dsimp only at hSw); go_simp; (try with_reducible rfl))
                      (try simp only [Act.put, List.setIfInBounds_toArray, List.set_cons_zero, List.set_cons_succ])
                      refine wpAnyH_take (i := 9) (oi := ?oP09) (v := ?vP09) ?hiP09 (by kernel_rfl) (by kernel_rfl) (by kernel_rfl) (fun _ _ _ h => h) (Or.inl ⟨?wP09, ?yP09⟩) (by assumption) ?rP09
                      case hiP09 => (simp only [List.getElem?_toArray, List.getElem?_cons_succ, List.getElem?_cons_zero]; try rfl)
                      case wP09 => rfl
                      case yP09 => (intro w hSw; (try dsimp only at hSw); go_simp; (try with_reducible rfl))
                      (try simp only [Act.put, List.setIfInBounds_toArray, List.set_cons_zero, List.set_cons_succ])
                      refine wpAnyH_take (i := 10) (oi := ?oP010) (v := .slice (fromA ao k cp 4) (n - k) (cp - k)) ?hiP010 (by kernel_rfl) (by kernel_rfl) (by kernel_rfl) (fun _ _ _ h => h) (Or.inl ⟨?wP010, ?yP010⟩) (by assumption) ?rP010
                      case hiP010 => (simp only [List.getElem?_toArray, List.getElem?_cons_succ, List.getElem?_cons_zero]; try rfl)
                      case wP010 => rfl
                      case yP010 => (intro w hSw; exact slice_yields rfl (HLO.out w))
                      (try simp only [Act.put, List.setIfInBounds_toArray, List.set_cons_zero, List.set_cons_succ])
                      refine wpAnyH_ready (rs := [3, 6]) (by kernel_rfl) (by simp) ?_
                      refine (AllReadyH.cons (o := ?oP03) ?hiP03 (fun K hK => ?_) (AllReadyH.cons (o := ?oP06) ?hiP06 (fun K hK => ?_) AllReadyH.nil))
                      case hiP03 => (simp only [List.getElem?_toArray, List.getElem?_cons_succ, List.getElem?_cons_zero]; try rfl)
                      case hiP06 => (simp only [List.getElem?_toArray, List.getElem?_cons_succ, List.getElem?_cons_zero]; try rfl)
                      · refine step_app 48 48 53 (.agg #[.int .i64 0, .slice none 0 0, .int .i64 0, .int .i64 0]) 4 48 Tryz.underlying48 infoG rfl (by decide) (by decide) rfl rfl rfl rfl (v := .slice none 0 0) (sv := (.slice ao k cp)) (World.ownsRow_nil _ _ _ _) (SRC1.out _ (K0.out)) (by omega) ?_
                        intro a1 c1 W1a hown1 hgr1 hfr1
                        simp only [Nat.zero_add, List.nil_append] at hown1 hgr1 hfr1 ⊢
                        have kA : Keep NoF w3 W1a := (K0.out).grown hgr1 (fun k _ e => by cases e)
                        have fr1 : ∀ b, (Value.slice a1 k c1).ownBlock = some b → w3.heap.size ≤ b := fun b hk => by
                          rcases hfr1 with f | f
                          · rw [f] at hk; cases hk
                          · rw [f] at hk; injection hk with hk; exact Nat.le_trans (K0.out).size (Nat.le_of_eq hk)
                        refine hK.out _ _ (trivial) (fun hHeld => ?_)
                        clear hK K
                        (try simp only [Act.put, List.setIfInBounds_toArray, List.set_cons_zero, List.set_cons_succ])
                        refine wpAnyH_ready (rs := [6]) (by kernel_rfl) (by simp) ?_
                        refine (AllReadyH.cons (o := ?oP0a6) ?hiP0a6 (fun K hK => ?_) AllReadyH.nil)
                        case hiP0a6 => (simp only [List.getElem?_toArray, List.getElem?_cons_succ, List.getElem?_cons_zero]; try rfl)
                        go_simp
                        refine hK.out _ _ (trivial) (fun hHeld => ?_)
                        clear hK K
                        (try simp only [Act.put, List.setIfInBounds_toArray, List.set_cons_zero, List.set_cons_succ])
                        have kA2 := kA.alloc (.cells #[.int .i64 x, .slice none 0 0, .int .i64 0, .int .i64 0] 53 (0, 0))
                        refine wpAnyH_ready (rs := [7]) (by kernel_rfl) (by simp) ?_
                        refine (AllReadyH.cons (o := ?oP0a7) ?hiP0a7 (fun K hK => ?_) AllReadyH.nil)
                        case hiP0a7 => (simp only [List.getElem?_toArray, List.getElem?_cons_succ, List.getElem?_cons_zero]; try rfl)
                        refine step_app 48 48 53 (.agg #[.int .i64 0, .slice none 0 0, .int .i64 0, .int .i64 0]) 4 48 Tryz.underlying48 infoG rfl (by decide) (by decide) rfl rfl rfl rfl (v := .slice a1 k c1) (sv := (.slice (some ⟨W1a.heap.size, 0, none⟩) 1 1)) (hown1.alloc _) (src_oneK (x := (GV.mk x (none, 0, 0) 0 0)) gC_one gC_len Tryz.underlying48 (heap_new W1a _) rfl 1) (by omega) ?_
                        intro a3 c3 W3 hown3 hgr3 hfr3
                        have kB : Keep NoF w3 W3 := (kA2).grown hgr3 (fun b hk e => by have := fr1 b e; omega)
                        have fr3 : ∀ b, (Value.slice a3 (k + 1) c3).ownBlock = some b → w3.heap.size ≤ b := fun b hk => by
                          rcases hfr3 with f | f
                          · rw [f] at hk; exact fr1 b hk
                          · rw [f] at hk; injection hk with hk; exact Nat.le_trans (kA2).size (Nat.le_of_eq hk)
                        refine hK.out _ _ (trivial) (fun hHeld => ?_)
                        clear hK K
                        (try simp only [Act.put, List.setIfInBounds_toArray, List.set_cons_zero, List.set_cons_succ])
                        refine wpAnyH_ready (rs := [11]) (by kernel_rfl) (by simp) ?_
                        refine (AllReadyH.cons (o := ?oP0a11) ?hiP0a11 (fun K hK => ?_) AllReadyH.nil)
                        case hiP0a11 => (simp only [List.getElem?_toArray, List.getElem?_cons_succ, List.getElem?_cons_zero]; try rfl)
                        refine step_app 48 48 53 (.agg #[.int .i64 0, .slice none 0 0, .int .i64 0, .int .i64 0]) 4 48 Tryz.underlying48 infoG rfl (by decide) (by decide) rfl rfl rfl rfl (v := .slice a3 (k + 1) c3) (sv := (.slice (fromA ao k cp 4) (n - k) (cp - k))) (hown3) (SRC2.out _ kB) (by omega) ?_
                        intro a4 c4 W4 hown4 hgr4 hfr4
                        have kC : Keep NoF w3 W4 := kB.grown hgr4 (fun b hk e => by have := fr3 b e; omega)
                        have fr4 : ∀ b, (Value.slice a4 (k + 1 + (n - k)) c4).ownBlock = some b → w3.heap.size ≤ b := fun b hk => by
                          rcases hfr4 with f | f
                          · rw [f] at hk; exact fr3 b hk
                          · rw [f] at hk; injection hk with hk; exact Nat.le_trans (kB).size (Nat.le_of_eq hk)
                        refine hK.out _ _ (trivial) (fun hHeld => ?_)
                        clear hK K
                        (try simp only [Act.put, List.setIfInBounds_toArray, List.set_cons_zero, List.set_cons_succ])
                        refine wpAnyH_take (i := 12) (oi := ?oP0a12) (v := ?vP0a12) ?hiP0a12 (by kernel_rfl) (by kernel_rfl) (by kernel_rfl) (fun _ _ _ h => h) (Or.inl ⟨?wP0a12, ?yP0a12⟩) (by assumption) ?rP0a12
                        case hiP0a12 => (simp only [List.getElem?_toArray, List.getElem?_cons_succ, List.getElem?_cons_zero]; try rfl)
                        case wP0a12 => rfl
                        case yP0a12 => (intro w hSw; (try dsimp only at hSw); go_simp; (try with_reducible rfl))
                        (try simp only [Act.put, List.setIfInBounds_toArray, List.set_cons_zero, List.set_cons_succ])
                        refine wpAnyH_done (by kernel_rfl) ?_ _
                        refine NoPanic.normal ?_
                        have e1 : k + 1 + (n - k) = n + 1 := by omega
                        rw [e1] at hown4 fr4 ⊢
                        have hI : ((K.map (gv sp cn ag)).take k).flatMap gC ++ gC ⟨x, (none, 0, 0), 0, 0⟩ ++ ((K.map (gv sp cn ag)).drop k).flatMap gC = ((insAt K k x).map (gv (fun y => if y = x then (none, 0, 0) else sp y) cn (agUp ag x))).flatMap gC := by rw [← ins_gv HXN.out HC0.out, List.flatMap_append, List.flatMap_cons, List.append_assoc]
                        rw [hI] at hown4
                        have hl : (insAt K k x).length = n + 1 := by rw [insAt_length (by rw [HN.out]; exact hkn), HN.out]
                        (try go_wp2_with fail)
                        go_meet
                        exact ⟨a4, c4, rfl, ⟨insAt K k x, _, agUp ag x, ins_rise HSTR.out HTK.out HBL.out HXN.out, fun y => mem_insAt, ⟨by rw [hl]; omega, by unfold insAt; rw [List.getElem_append_right (by rw [List.length_take, HN.out]; omega)]; simp [HN.out, Nat.min_eq_left hkn]⟩, hl, fun y hy => by unfold agUp; rw [if_neg hy], HA3.out.new kC (glen hl) hown4 fr4 (fun y hy => by
                          by_cases e : y = x
                          · right; rw [e]; exact ⟨if_pos rfl, HP0.out⟩
                          · left; exact ⟨(mem_insAt.1 hy).resolve_left e, if_neg e, rfl⟩)⟩, kC⟩
                      · go_simp
                        refine hK.out _ _ (trivial) (fun hHeld => ?_)
                        clear hK K
                        (try simp only [Act.put, List.setIfInBounds_toArray, List.set_cons_zero, List.set_cons_succ])
                        have k1 := K0.out.alloc (.cells #[.int .i64 x, .slice none 0 0, .int .i64 0, .int .i64 0] 53 (0, 0))
                        refine wpAnyH_ready (rs := [3]) (by kernel_rfl) (by simp) ?_
                        refine (AllReadyH.cons (o := ?oP0b3) ?hiP0b3 (fun K hK => ?_) AllReadyH.nil)
                        case hiP0b3 => (simp only [List.getElem?_toArray, List.getElem?_cons_succ, List.getElem?_cons_zero]; try rfl)
                        refine step_app 48 48 53 (.agg #[.int .i64 0, .slice none 0 0, .int .i64 0, .int .i64 0]) 4 48 Tryz.underlying48 infoG rfl (by decide) (by decide) rfl rfl rfl rfl (v := .slice none 0 0) (sv := (.slice ao k cp)) (World.ownsRow_nil _ _ _ _) (SRC1.out _ (k1)) (by omega) ?_
                        intro a1 c1 W1b hown1 hgr1 hfr1
                        simp only [Nat.zero_add, List.nil_append] at hown1 hgr1 hfr1 ⊢
                        have kA : Keep NoF w3 W1b := (k1).grown hgr1 (fun k _ e => by cases e)
                        have fr1 : ∀ b, (Value.slice a1 k c1).ownBlock = some b → w3.heap.size ≤ b := fun b hk => by
                          rcases hfr1 with f | f
                          · rw [f] at hk; cases hk
                          · rw [f] at hk; injection hk with hk; exact Nat.le_trans (k1).size (Nat.le_of_eq hk)
                        have hpb : W1b.heap[w3.heap.size]? = some (.cells #[.int .i64 x, .slice none 0 0, .int .i64 0, .int .i64 0] 53 (0, 0)) := (hgr1.block w3.heap.size (by simp) (by simp [Value.ownBlock])).trans (heap_new w3.drew _)
                        refine hK.out _ _ (trivial) (fun hHeld => ?_)
                        clear hK K
                        (try simp only [Act.put, List.setIfInBounds_toArray, List.set_cons_zero, List.set_cons_succ])
                        refine wpAnyH_ready (rs := [7]) (by kernel_rfl) (by simp) ?_
                        refine (AllReadyH.cons (o := ?oP0b7) ?hiP0b7 (fun K hK => ?_) AllReadyH.nil)
                        case hiP0b7 => (simp only [List.getElem?_toArray, List.getElem?_cons_succ, List.getElem?_cons_zero]; try rfl)
                        refine step_app 48 48 53 (.agg #[.int .i64 0, .slice none 0 0, .int .i64 0, .int .i64 0]) 4 48 Tryz.underlying48 infoG rfl (by decide) (by decide) rfl rfl rfl rfl (v := .slice a1 k c1) (sv := (.slice (some ⟨w3.heap.size, 0, none⟩) 1 1)) (hown1) (src_oneK (x := (GV.mk x (none, 0, 0) 0 0)) gC_one gC_len Tryz.underlying48 (hpb) rfl 1) (by omega) ?_
                        intro a3 c3 W3 hown3 hgr3 hfr3
                        have kB : Keep NoF w3 W3 := (kA).grown hgr3 (fun b hk e => by have := fr1 b e; omega)
                        have fr3 : ∀ b, (Value.slice a3 (k + 1) c3).ownBlock = some b → w3.heap.size ≤ b := fun b hk => by
                          rcases hfr3 with f | f
                          · rw [f] at hk; exact fr1 b hk
                          · rw [f] at hk; injection hk with hk; exact Nat.le_trans (kA).size (Nat.le_of_eq hk)
                        refine hK.out _ _ (trivial) (fun hHeld => ?_)
                        clear hK K
                        (try simp only [Act.put, List.setIfInBounds_toArray, List.set_cons_zero, List.set_cons_succ])
                        refine wpAnyH_ready (rs := [11]) (by kernel_rfl) (by simp) ?_
                        refine (AllReadyH.cons (o := ?oP0b11) ?hiP0b11 (fun K hK => ?_) AllReadyH.nil)
                        case hiP0b11 => (simp only [List.getElem?_toArray, List.getElem?_cons_succ, List.getElem?_cons_zero]; try rfl)
                        refine step_app 48 48 53 (.agg #[.int .i64 0, .slice none 0 0, .int .i64 0, .int .i64 0]) 4 48 Tryz.underlying48 infoG rfl (by decide) (by decide) rfl rfl rfl rfl (v := .slice a3 (k + 1) c3) (sv := (.slice (fromA ao k cp 4) (n - k) (cp - k))) (hown3) (SRC2.out _ kB) (by omega) ?_
                        intro a4 c4 W4 hown4 hgr4 hfr4
                        have kC : Keep NoF w3 W4 := kB.grown hgr4 (fun b hk e => by have := fr3 b e; omega)
                        have fr4 : ∀ b, (Value.slice a4 (k + 1 + (n - k)) c4).ownBlock = some b → w3.heap.size ≤ b := fun b hk => by
                          rcases hfr4 with f | f
                          · rw [f] at hk; exact fr3 b hk
                          · rw [f] at hk; injection hk with hk; exact Nat.le_trans (kB).size (Nat.le_of_eq hk)
                        refine hK.out _ _ (trivial) (fun hHeld => ?_)
                        clear hK K
                        (try simp only [Act.put, List.setIfInBounds_toArray, List.set_cons_zero, List.set_cons_succ])
                        refine wpAnyH_take (i := 12) (oi := ?oP0b12) (v := ?vP0b12) ?hiP0b12 (by kernel_rfl) (by kernel_rfl) (by kernel_rfl) (fun _ _ _ h => h) (Or.inl ⟨?wP0b12, ?yP0b12⟩) (by assumption) ?rP0b12
                        case hiP0b12 => (simp only [List.getElem?_toArray, List.getElem?_cons_succ, List.getElem?_cons_zero]; try rfl)
                        case wP0b12 => rfl
                        case yP0b12 => (intro w hSw; (try dsimp only at hSw); go_simp; (try with_reducible rfl))
                        (try simp only [Act.put, List.setIfInBounds_toArray, List.set_cons_zero, List.set_cons_succ])
                        refine wpAnyH_done (by kernel_rfl) ?_ _
                        refine NoPanic.normal ?_
                        have e1 : k + 1 + (n - k) = n + 1 := by omega
                        rw [e1] at hown4 fr4 ⊢
                        have hI : ((K.map (gv sp cn ag)).take k).flatMap gC ++ gC ⟨x, (none, 0, 0), 0, 0⟩ ++ ((K.map (gv sp cn ag)).drop k).flatMap gC = ((insAt K k x).map (gv (fun y => if y = x then (none, 0, 0) else sp y) cn (agUp ag x))).flatMap gC := by rw [← ins_gv HXN.out HC0.out, List.flatMap_append, List.flatMap_cons, List.append_assoc]
                        rw [hI] at hown4
                        have hl : (insAt K k x).length = n + 1 := by rw [insAt_length (by rw [HN.out]; exact hkn), HN.out]
                        (try go_wp2_with fail)
                        go_meet
                        exact ⟨a4, c4, rfl, ⟨insAt K k x, _, agUp ag x, ins_rise HSTR.out HTK.out HBL.out HXN.out, fun y => mem_insAt, ⟨by rw [hl]; omega, by unfold insAt; rw [List.getElem_append_right (by rw [List.length_take, HN.out]; omega)]; simp [HN.out, Nat.min_eq_left hkn]⟩, hl, fun y hy => by unfold agUp; rw [if_neg hy], HA3.out.new kC (glen hl) hown4 fr4 (fun y hy => by
                          by_cases e : y = x
                          · right; rw [e]; exact ⟨if_pos rfl, HP0.out⟩
                          · left; exact ⟨(mem_insAt.1 hy).resolve_left e, if_neg e, rfl⟩)⟩, kC⟩
                    case rest =>
                      obtain ⟨a4, c4, rfl, hLP, hk4⟩ := hcut
                      obtain ⟨w4, rfl⟩ : ∃ W, W = wc := ⟨_, rfl⟩
                      have HLP := Lib.hid hLP
                      have hoW : w4.heap[ob]? = some (.cells #[.int .i64 0, .int .i64 T0, .int .i64 U0, .string pq, .string pb] 50 (0, 0)) := by rw [hk4.block ob (lt_of_heap HOW.out) (fun f => f)]; exact HOW.out
                      have hpW : w4.heap[pbk]? = some (.cells #[.string q8, .string b60] 28 (0, 0)) := by rw [hk4.block pbk (lt_of_heap HPB.out) (fun f => f)]; exact HPB.out
                      replace HOW := Lib.hid hoW; replace HPB := Lib.hid hpW
                      have hcc : 0 ≤ cn x ∧ cn x < 10 := by have := HC0.out; omega
                      clear hLP hk4 hoW hpW
                      obtain ⟨K4, sp4, ag4, hst4, hkm4, ⟨hk4, hK4x⟩, hn4, hag4, hA4⟩ := HLP.out
                      obtain ⟨g4, e4, -, -, -, c2, -⟩ := hA4.at k (by rw [glen hn4, ← hn4]; exact hk4)
                      cases e4
                      simp only [List.getElem_map, gv, hK4x] at c2
                      obtain ⟨g5, e5, f1, hA5, d5, -⟩ := hA4.store k 2 (by rw [glen hn4, ← hn4]; exact hk4) (by omega) (gv sp4 (cnUp cn x) ag4 x) (.int .i64 (cn x + 1)) (by rw [List.getElem_map, hK4x]; unfold gv gC cnUp; simp)
                      cases e5
                      have eq5 : (K4.map (gv sp4 cn ag4)).set k (gv sp4 (cnUp cn x) ag4 x) = K4.map (gv sp4 (cnUp cn x) ag4) := by
                        have := setMapG (f := gv sp4 cn ag4) (f' := gv sp4 (cnUp cn x) ag4) hst4 hk4 (fun y _ hne => by rw [hK4x] at hne; unfold gv cnUp; rw [if_neg hne])
                        rw [hK4x] at this; exact this
                      rw [eq5] at hA5
                      obtain ⟨g6, e6, f2, hA6, d6, -⟩ := hA5.store k 3 (by rw [glen hn4, ← hn4]; exact hk4) (by omega) (gv sp4 (cnUp cn x) (agUp ag x) x) (.int .i64 0) (by rw [List.getElem_map, hK4x]; unfold gv gC agUp; simp)
                      cases e6
                      have eq6 : (K4.map (gv sp4 (cnUp cn x) ag4)).set k (gv sp4 (cnUp cn x) (agUp ag x) x) = K4.map (gv sp4 (cnUp cn x) (agUp ag x)) := by
                        have := setMapG (f := gv sp4 (cnUp cn x) ag4) (f' := gv sp4 (cnUp cn x) (agUp ag x)) hst4 hk4 (fun y _ hne => by rw [hK4x] at hne; unfold gv; rw [hag4 y hne]; unfold agUp; rw [if_neg hne])
                        rw [hK4x] at this; exact this
                      rw [eq6] at hA6
                      obtain ⟨_, e7, -, -, -, -, c3⟩ := hA5.at k (by rw [glen hn4, ← hn4]; exact hk4)
                      cases e7
                      simp only [List.getElem_map, gv, hK4x] at c3
                      obtain ⟨cx, hcx⟩ : ∃ cx, cn x = cx := ⟨_, rfl⟩
                      rw [hcx] at c2 hA5 d5 f2 hA6 d6 hcc c3
                      generalize ag4 x = a9 at c3
                      have hkN : k < n + 1 := by rw [← hn4]; exact hk4
                      have hkN2 : (k : Int) < ((n + 1 : Nat) : Int) := by omega
                      have hkN3 : decide (n + 1 ≤ k) = false := by simp; omega
                      have hkN4 : (k : Int) < (n : Int) + 1 := by omega
                      have hws : IntKind.i64.wrap (cx + 1) = cx + 1 := IntWalk.i64_in _ (by omega)
                      obtain ⟨w5, hw5⟩ : ∃ W, w4.setCell ⟨g4, k * 4 + 2, none⟩ (.int .i64 (cx + 1)) = W := ⟨_, rfl⟩
                      rw [hw5] at hA5 d5 f2 hA6 d6 c3
                      obtain ⟨w6, hw6⟩ : ∃ W, w5.setCell ⟨g4, k * 4 + 3, none⟩ (.int .i64 0) = W := ⟨_, rfl⟩
                      rw [hw6] at hA6 d6
                      have HA6 := Lib.hid hA6; have HST4 := Lib.hid hst4; have HKM4 := Lib.hid hkm4; have HK4X : Hid (∃ hk : k < K4.length, K4[k] = x) := Lib.hid ⟨hk4, hK4x⟩; have HN4 := Lib.hid hn4; have HCX2 := Lib.hid hcx; have HF2 := Lib.hid f2; have HC3 := Lib.hid c3; have HW5 := Lib.hid hw5; have HW6 := Lib.hid hw6
                      have hoW : w6.heap[ob]? = some (.cells #[.int .i64 0, .int .i64 T0, .int .i64 U0, .string pq, .string pb] 50 (0, 0)) := by rw [d6 ob (.inl rfl), d5 ob (.inl rfl)]; exact HOW.out
                      have hpW : w6.heap[pbk]? = some (.cells #[.string q8, .string b60] 28 (0, 0)) := by rw [d6 pbk (.inr rfl), d5 pbk (.inr rfl)]; exact HPB.out
                      have HO6 := Lib.hid hoW; have HP6 := Lib.hid hpW
                      clear hA4 hA5 hA6 hst4 hkm4 hk4 hK4x hn4 hag4 eq5 eq6 hcx f2 c3 hw5 hw6 d5 d6 hoW hpW HLP
                      go_upto_region 36 with fail
                      (try clear co0)
                      rw [HW5.out]
                      clear c2 f1 hws
                      have f2 := HF2.out; have c3 := HC3.out
                      go_upto_region 37 with fail
                      rw [HW6.out]
                      clear f2 c3
                      have co0 := cell_of_heap HO6.out 0
                      simp at co0
                      obtain ⟨hk4, hK4x⟩ := HK4X.out
                      have hx4 : x ∈ K4 := (HKM4.out x).2 (.inl rfl)
                      have ho6 := HA6.out.own hx4
                      have hcr6 := HA6.out.cr
                      obtain ⟨_, e7, -, -, c1, -⟩ := HA6.out.at k (by rw [glen HN4.out, ← HN4.out]; exact hk4)
                      cases e7
                      simp only [List.getElem_map, gv, hK4x] at c1
                      obtain ⟨s9, hs9⟩ : ∃ s, sp4 x = s := ⟨_, rfl⟩
                      rw [hs9] at ho6 c1
                      have hlen : (ps x).length ≤ 10 := by have := HA1.out.cr x; omega
                      have HS9 := Lib.hid hs9; have HX4 := Lib.hid hx4
                      have HOA : Hid (∀ o, ((w6.alloc o).drew).ownsRow 0 28 2 (sVal s9) (ps x).length (pvs (ps x))) := Lib.hid fun o => OwnP.keep ho6 ((Keep.refl NoF w6).alloc o).drew (fun _ _ f => f)
                      have hSrc : ∀ o : Obj, o = .cells #[.string q8, .string b60] 28 (0, 0) → Src Tryz.prog 2 29 (.slice (some ⟨w6.heap.size, 0, none⟩) 1 1) 1 [.string q8, .string b60] ((w6.alloc o).drew) := by
                        rintro o rfl
                        exact Src.two Tryz.underlying29 (show ((w6.alloc (.cells #[.string q8, .string b60] 28 (0, 0))).drew).heap[w6.heap.size]? = _ from heap_new w6 _) 1
                      have HSrc := Lib.hid hSrc
                      have cp0 := cell_of_heap HP6.out 0
                      have cp1 := cell_of_heap HP6.out 1
                      simp at cp0 cp1
                      have c1a : ∀ o, (w6.alloc o).cell? ⟨g4, k * 4 + 1, none⟩ = some (sVal s9) := fun o => ((Keep.refl NoF w6).alloc o).cell' c1 (fun f => f)
                      clear hSrc hs9 hx4 ho6 hcr6 hk4 hK4x
                      obtain ⟨C4, hC4⟩ : ∃ C : Nat, c4 = C := ⟨_, rfl⟩
                      rw [hC4] at HA6 ⊢
                      clear hC4
                      go_upto_region 38 with fail
                      refine wp_region_noPanic ?_
                      refine wp_region_held_drew (S := (fun _ : World => True)) (by kernel_rfl) (trivial) (fun hHeld => ?_)
                      refine wpAnyH_take (i := 0) (oi := ?oTA00) (v := ?vTA00) ?hiTA00 (by kernel_rfl) (by kernel_rfl) (by kernel_rfl) (fun _ _ _ h => h) (Or.inl ⟨?wTA00, ?yTA00⟩) (by assumption) ?rTA00
                      case hiTA00 => (simp only [List.getElem?_toArray, List.getElem?_cons_zero]; try rfl)
                      case wTA00 => rfl
                      case yTA00 => (intro w hSw; (try dsimp only at hSw); go_simp; (try with_reducible rfl))
                      (try simp only [Act.put, List.setIfInBounds_toArray, List.set_cons_zero, List.set_cons_succ])
                      refine wpAnyH_take (i := 1) (oi := ?oTA01) (v := ?vTA01) ?hiTA01 (by kernel_rfl) (by kernel_rfl) (by kernel_rfl) (fun _ _ _ h => h) (Or.inl ⟨?wTA01, ?yTA01⟩) (by assumption) ?rTA01
                      case hiTA01 => (simp only [List.getElem?_toArray, List.getElem?_cons_succ, List.getElem?_cons_zero]; try rfl)
                      case wTA01 => rfl
                      case yTA01 => (intro w hSw; (try dsimp only at hSw); go_simp; (try with_reducible rfl))
                      (try simp only [Act.put, List.setIfInBounds_toArray, List.set_cons_zero, List.set_cons_succ])
                      refine wpAnyH_take (i := 2) (oi := ?oTA02) (v := ?vTA02) ?hiTA02 (by kernel_rfl) (by kernel_rfl) (by kernel_rfl) (fun _ _ _ h => h) (Or.inl ⟨?wTA02, ?yTA02⟩) (by assumption) ?rTA02
                      case hiTA02 => (simp only [List.getElem?_toArray, List.getElem?_cons_succ, List.getElem?_cons_zero]; try rfl)
                      case wTA02 => rfl
                      case yTA02 => (intro w hSw; (try dsimp only at hSw); go_simp; (try with_reducible rfl))
                      (try simp only [Act.put, List.setIfInBounds_toArray, List.set_cons_zero, List.set_cons_succ])
                      refine wpAnyH_take (i := 3) (oi := ?oTA03) (v := ?vTA03) ?hiTA03 (by kernel_rfl) (by kernel_rfl) (by kernel_rfl) (fun _ _ _ h => h) (Or.inl ⟨?wTA03, ?yTA03⟩) (by assumption) ?rTA03
                      case hiTA03 => (simp only [List.getElem?_toArray, List.getElem?_cons_succ, List.getElem?_cons_zero]; try rfl)
                      case wTA03 => rfl
                      case yTA03 => (intro w hSw; (try dsimp only at hSw); go_simp; (try with_reducible rfl))
                      (try simp only [Act.put, List.setIfInBounds_toArray, List.set_cons_zero, List.set_cons_succ])
                      refine wpAnyH_take (i := 4) (oi := ?oTA04) (v := ?vTA04) ?hiTA04 (by kernel_rfl) (by kernel_rfl) (by kernel_rfl) (fun _ _ _ h => h) (Or.inl ⟨?wTA04, ?yTA04⟩) (by assumption) ?rTA04
                      case hiTA04 => (simp only [List.getElem?_toArray, List.getElem?_cons_succ, List.getElem?_cons_zero]; try rfl)
                      case wTA04 => rfl
                      case yTA04 => (intro w hSw; (try dsimp only at hSw); go_simp; (try with_reducible rfl))
                      (try simp only [Act.put, List.setIfInBounds_toArray, List.set_cons_zero, List.set_cons_succ])
                      refine wpAnyH_take (i := 5) (oi := ?oTA05) (v := ?vTA05) ?hiTA05 (by kernel_rfl) (by kernel_rfl) (by kernel_rfl) (fun _ _ _ h => h) (Or.inl ⟨?wTA05, ?yTA05⟩) (by assumption) ?rTA05
                      case hiTA05 => (simp only [List.getElem?_toArray, List.getElem?_cons_succ, List.getElem?_cons_zero]; try rfl)
                      case wTA05 => rfl
                      case yTA05 => (intro w hSw; (try dsimp only at hSw); go_simp; (try with_reducible rfl))
                      (try simp only [Act.put, List.setIfInBounds_toArray, List.set_cons_zero, List.set_cons_succ])
                      refine wpAnyH_ready (rs := [6, 7]) (by kernel_rfl) (by simp) ?_
                      refine (AllReadyH.cons (o := ?oTA06) ?hiTA06 (fun K hK => ?_) (AllReadyH.cons (o := ?oTA07) ?hiTA07 (fun K hK => ?_) AllReadyH.nil))
                      case hiTA06 => (simp only [List.getElem?_toArray, List.getElem?_cons_succ, List.getElem?_cons_zero]; try rfl)
                      case hiTA07 => (simp only [List.getElem?_toArray, List.getElem?_cons_succ, List.getElem?_cons_zero]; try rfl)
                      · go_simp
                        refine hK.out _ _ (trivial) (fun hHeld => ?_)
                        clear hK K
                        (try simp only [Act.put, List.setIfInBounds_toArray, List.set_cons_zero, List.set_cons_succ])
                        refine wpAnyH_ready (rs := [7]) (by kernel_rfl) (by simp) ?_
                        refine AllReadyH.cons (o := ?oTA0a7) ?hiTA0a7 (fun K hK => ?_) AllReadyH.nil
                        case hiTA0a7 => (simp only [List.getElem?_toArray, List.getElem?_cons_succ, List.getElem?_cons_zero]; try rfl)
                        go_simp
                        refine hK.out _ _ (trivial) (fun hHeld => ?_)
                        clear hK K
                        (try simp only [Act.put, List.setIfInBounds_toArray, List.set_cons_zero, List.set_cons_succ])
                        refine wpAnyH_ready (rs := [8]) (by kernel_rfl) (by simp) ?_
                        refine AllReadyH.cons (o := ?oTA0a8) ?hiTA0a8 (fun K hK => ?_) AllReadyH.nil
                        case hiTA0a8 => (simp only [List.getElem?_toArray, List.getElem?_cons_succ, List.getElem?_cons_zero]; try rfl)
                        go_simp
                        refine hK.out _ _ (trivial) (fun hHeld => ?_)
                        clear hK K
                        (try simp only [Act.put, List.setIfInBounds_toArray, List.set_cons_zero, List.set_cons_succ])
                        refine wpAnyH_ready (rs := [9]) (by kernel_rfl) (by simp) ?_
                        refine AllReadyH.cons (o := ?oTA0a9) ?hiTA0a9 (fun K hK => ?_) AllReadyH.nil
                        case hiTA0a9 => (simp only [List.getElem?_toArray, List.getElem?_cons_succ, List.getElem?_cons_zero]; try rfl)
                        refine step_app 29 29 28 (.agg #[.string ByteArray.empty, .string ByteArray.empty]) 2 32 Tryz.underlying29 infoPut rfl (by decide) (by decide) rfl rfl rfl rfl (v := sVal s9) (HOA.out _) (HSrc.out _ rfl) (by omega) ?_
                        intro a7 c7 w7 hown hgr hfr
                        replace hgr : World.grownBy ((w6.alloc (.cells #[.string q8, .string b60] 28 (0, 0))).drew) w7 (sVal s9).ownBlock := hgr
                        replace hfr : (Value.slice a7 ((ps x).length + 1) c7).ownBlock = (sVal s9).ownBlock ∨ (Value.slice a7 ((ps x).length + 1) c7).ownBlock = some ((w6.alloc (.cells #[.string q8, .string b60] 28 (0, 0))).drew).heap.size := hfr
                        have hkd : Keep NoF w6 ((w6.alloc (.cells #[.string q8, .string b60] 28 (0, 0))).drew) := ((Keep.refl NoF w6).alloc _).drew
                        have hO7 : OwnP w7 (.slice a7 ((ps x).length + 1) c7) (ps x ++ [⟨q8, b60⟩]) := by
                          unfold OwnP
                          rw [List.length_append, pvs, List.flatMap_append]
                          exact hown
                        obtain ⟨hk4, hK4x⟩ := HK4X.out
                        obtain ⟨g7, e7, f7, c7c, hA7, d7, d7w⟩ := HA6.out.more HX4.out hkd (by rw [HS9.out]; exact hgr) hO7 (by rw [HS9.out]; exact hfr) k (by rw [glen HN4.out, ← HN4.out]; exact hk4)
                        cases e7
                        simp only [List.getElem_map, gv, hK4x] at hA7
                        have eq7 : (K4.map (gv sp4 (cnUp cn x) (agUp ag x))).set k ⟨x, (a7, (ps x).length + 1, c7), cnUp cn x x, agUp ag x x⟩ = K4.map (gv (fun y => if y = x then (a7, (ps x).length + 1, c7) else sp4 y) (cnUp cn x) (agUp ag x)) := by
                          have := setMapG (f := gv sp4 (cnUp cn x) (agUp ag x)) (f' := gv (fun y => if y = x then (a7, (ps x).length + 1, c7) else sp4 y) (cnUp cn x) (agUp ag x)) HST4.out hk4 (fun y _ hne => by rw [hK4x] at hne; simp only [gv, if_neg hne])
                          rw [hK4x] at this
                          rw [← this]; simp [gv]
                        rw [eq7] at hA7
                        have HNX : Hid (LB w (w7.setCell ⟨g4, k * 4 + 1, none⟩ (.slice a7 ((ps x).length + 1) c7)) p (i + 1) (.slice (some ⟨g4, 0, none⟩) (n + 1) C4)) := Lib.hid ⟨nb + 1, cnUp cn x, (psUp ps x ⟨q8, b60⟩), agUp ag x, K4, _, by omega, HST4.out, fun y => by rw [HKM4.out]; unfold cnUp; by_cases e : y = x; (rw [if_pos e, e]; simp; have := HCX2.out; omega); (rw [if_neg e, HKM.out]; simp [e]), fun y hy => by have h1 : 0 ≤ y ∧ y ≤ 4 := (by rcases (HKM4.out y).1 hy with e | e; (rw [e]; exact hxb); (exact ⟨(HRG.out y e).1, (HRG.out y e).2.1⟩)); unfold agUp; by_cases e : y = x; (rw [if_pos e]; omega); (rw [if_neg e]; have := HRG.out y (((HKM4.out y).1 hy).resolve_left e); omega), fun y q hq => by unfold psUp at hq; by_cases e : y = x; (rw [if_pos e] at hq; rcases List.mem_append.1 hq with h | h; (exact HSZ.out x q h); (rw [List.mem_singleton.1 h]; exact HQS.out)); (rw [if_neg e] at hq; exact HSZ.out y q hq), hA7.free⟩
                        rw [List.getElem_map] at c7c
                        simp only [gv, hK4x, HS9.out] at c7c
                        clear hown hgr hfr hkd hO7 hk4 hK4x eq7 hA7 d7 d7w
                        refine hK.out _ _ (trivial) (fun hHeld => ?_)
                        clear hK K
                        (try simp only [Act.put, List.setIfInBounds_toArray, List.set_cons_zero, List.set_cons_succ])
                        refine wpAnyH_take (i := 10) (oi := ?oTA0a10) (v := ?vTA0a10) ?hiTA0a10 (by kernel_rfl) (by kernel_rfl) (by kernel_rfl) (fun _ _ _ h => h) (Or.inl ⟨?wTA0a10, ?yTA0a10⟩) (by assumption) ?rTA0a10
                        case hiTA0a10 => (simp only [List.getElem?_toArray, List.getElem?_cons_succ, List.getElem?_cons_zero]; try rfl)
                        case wTA0a10 => rfl
                        case yTA0a10 => (intro w hSw; (try dsimp only at hSw); go_simp; (try with_reducible rfl))
                        (try simp only [Act.put, List.setIfInBounds_toArray, List.set_cons_zero, List.set_cons_succ])
                        refine wpAnyH_take (i := 11) (oi := ?oTA0a11) (v := ?vTA0a11) ?hiTA0a11 (by kernel_rfl) (by kernel_rfl) (by kernel_rfl) (fun _ _ _ h => h) (Or.inl ⟨?wTA0a11, ?yTA0a11⟩) (by assumption) ?rTA0a11
                        case hiTA0a11 => (simp only [List.getElem?_toArray, List.getElem?_cons_succ, List.getElem?_cons_zero]; try rfl)
                        case wTA0a11 => rfl
                        case yTA0a11 => (intro w hSw; (try dsimp only at hSw); go_simp; (try with_reducible rfl))
                        (try simp only [Act.put, List.setIfInBounds_toArray, List.set_cons_zero, List.set_cons_succ])
                        refine wpAnyH_ready (rs := [12]) (by kernel_rfl) (by simp) ?_
                        refine AllReadyH.cons (o := ?oTA0a12) ?hiTA0a12 (fun K hK => ?_) AllReadyH.nil
                        case hiTA0a12 => (simp only [List.getElem?_toArray, List.getElem?_cons_succ, List.getElem?_cons_zero]; try rfl)
                        go_simp
                        refine hK.out _ _ (trivial) (fun hHeld => ?_)
                        clear hK K
                        (try simp only [Act.put, List.setIfInBounds_toArray, List.set_cons_zero, List.set_cons_succ])
                        refine wpAnyH_done (by kernel_rfl) ?_ _
                        refine NoPanic.normal ?_
                        go_wp2_with fail
                        go_roundw
                        case rel => exact ⟨i + 1, by omega, by go_num, HNX.out⟩
                        case measure => simp [intOf]; omega
                      · go_simp
                        refine hK.out _ _ (trivial) (fun hHeld => ?_)
                        clear hK K
                        (try simp only [Act.put, List.setIfInBounds_toArray, List.set_cons_zero, List.set_cons_succ])
                        refine wpAnyH_ready (rs := [6, 8]) (by kernel_rfl) (by simp) ?_
                        refine (AllReadyH.cons (o := ?oTA0b6) ?hiTA0b6 (fun K hK => ?_) (AllReadyH.cons (o := ?oTA0b8) ?hiTA0b8 (fun K hK => ?_) AllReadyH.nil))
                        case hiTA0b6 => (simp only [List.getElem?_toArray, List.getElem?_cons_succ, List.getElem?_cons_zero]; try rfl)
                        case hiTA0b8 => (simp only [List.getElem?_toArray, List.getElem?_cons_succ, List.getElem?_cons_zero]; try rfl)
                        · go_simp
                          refine hK.out _ _ (trivial) (fun hHeld => ?_)
                          clear hK K
                          (try simp only [Act.put, List.setIfInBounds_toArray, List.set_cons_zero, List.set_cons_succ])
                          refine wpAnyH_ready (rs := [8]) (by kernel_rfl) (by simp) ?_
                          refine AllReadyH.cons (o := ?oTA0ba8) ?hiTA0ba8 (fun K hK => ?_) AllReadyH.nil
                          case hiTA0ba8 => (simp only [List.getElem?_toArray, List.getElem?_cons_succ, List.getElem?_cons_zero]; try rfl)
                          go_simp
                          refine hK.out _ _ (trivial) (fun hHeld => ?_)
                          clear hK K
                          (try simp only [Act.put, List.setIfInBounds_toArray, List.set_cons_zero, List.set_cons_succ])
                          refine wpAnyH_ready (rs := [9]) (by kernel_rfl) (by simp) ?_
                          refine AllReadyH.cons (o := ?oTA0ba9) ?hiTA0ba9 (fun K hK => ?_) AllReadyH.nil
                          case hiTA0ba9 => (simp only [List.getElem?_toArray, List.getElem?_cons_succ, List.getElem?_cons_zero]; try rfl)
                          refine step_app 29 29 28 (.agg #[.string ByteArray.empty, .string ByteArray.empty]) 2 32 Tryz.underlying29 infoPut rfl (by decide) (by decide) rfl rfl rfl rfl (v := sVal s9) (HOA.out _) (HSrc.out _ rfl) (by omega) ?_
                          intro a7 c7 w7 hown hgr hfr
                          replace hgr : World.grownBy ((w6.alloc (.cells #[.string q8, .string b60] 28 (0, 0))).drew) w7 (sVal s9).ownBlock := hgr
                          replace hfr : (Value.slice a7 ((ps x).length + 1) c7).ownBlock = (sVal s9).ownBlock ∨ (Value.slice a7 ((ps x).length + 1) c7).ownBlock = some ((w6.alloc (.cells #[.string q8, .string b60] 28 (0, 0))).drew).heap.size := hfr
                          have hkd : Keep NoF w6 ((w6.alloc (.cells #[.string q8, .string b60] 28 (0, 0))).drew) := ((Keep.refl NoF w6).alloc _).drew
                          have hO7 : OwnP w7 (.slice a7 ((ps x).length + 1) c7) (ps x ++ [⟨q8, b60⟩]) := by
                            unfold OwnP
                            rw [List.length_append, pvs, List.flatMap_append]
                            exact hown
                          obtain ⟨hk4, hK4x⟩ := HK4X.out
                          obtain ⟨g7, e7, f7, c7c, hA7, d7, d7w⟩ := HA6.out.more HX4.out hkd (by rw [HS9.out]; exact hgr) hO7 (by rw [HS9.out]; exact hfr) k (by rw [glen HN4.out, ← HN4.out]; exact hk4)
                          cases e7
                          simp only [List.getElem_map, gv, hK4x] at hA7
                          have eq7 : (K4.map (gv sp4 (cnUp cn x) (agUp ag x))).set k ⟨x, (a7, (ps x).length + 1, c7), cnUp cn x x, agUp ag x x⟩ = K4.map (gv (fun y => if y = x then (a7, (ps x).length + 1, c7) else sp4 y) (cnUp cn x) (agUp ag x)) := by
                            have := setMapG (f := gv sp4 (cnUp cn x) (agUp ag x)) (f' := gv (fun y => if y = x then (a7, (ps x).length + 1, c7) else sp4 y) (cnUp cn x) (agUp ag x)) HST4.out hk4 (fun y _ hne => by rw [hK4x] at hne; simp only [gv, if_neg hne])
                            rw [hK4x] at this
                            rw [← this]; simp [gv]
                          rw [eq7] at hA7
                          have HNX : Hid (LB w (w7.setCell ⟨g4, k * 4 + 1, none⟩ (.slice a7 ((ps x).length + 1) c7)) p (i + 1) (.slice (some ⟨g4, 0, none⟩) (n + 1) C4)) := Lib.hid ⟨nb + 1, cnUp cn x, (psUp ps x ⟨q8, b60⟩), agUp ag x, K4, _, by omega, HST4.out, fun y => by rw [HKM4.out]; unfold cnUp; by_cases e : y = x; (rw [if_pos e, e]; simp; have := HCX2.out; omega); (rw [if_neg e, HKM.out]; simp [e]), fun y hy => by have h1 : 0 ≤ y ∧ y ≤ 4 := (by rcases (HKM4.out y).1 hy with e | e; (rw [e]; exact hxb); (exact ⟨(HRG.out y e).1, (HRG.out y e).2.1⟩)); unfold agUp; by_cases e : y = x; (rw [if_pos e]; omega); (rw [if_neg e]; have := HRG.out y (((HKM4.out y).1 hy).resolve_left e); omega), fun y q hq => by unfold psUp at hq; by_cases e : y = x; (rw [if_pos e] at hq; rcases List.mem_append.1 hq with h | h; (exact HSZ.out x q h); (rw [List.mem_singleton.1 h]; exact HQS.out)); (rw [if_neg e] at hq; exact HSZ.out y q hq), hA7.free⟩
                          rw [List.getElem_map] at c7c
                          simp only [gv, hK4x, HS9.out] at c7c
                          clear hown hgr hfr hkd hO7 hk4 hK4x eq7 hA7 d7 d7w
                          refine hK.out _ _ (trivial) (fun hHeld => ?_)
                          clear hK K
                          (try simp only [Act.put, List.setIfInBounds_toArray, List.set_cons_zero, List.set_cons_succ])
                          refine wpAnyH_take (i := 10) (oi := ?oTA0ba10) (v := ?vTA0ba10) ?hiTA0ba10 (by kernel_rfl) (by kernel_rfl) (by kernel_rfl) (fun _ _ _ h => h) (Or.inl ⟨?wTA0ba10, ?yTA0ba10⟩) (by assumption) ?rTA0ba10
                          case hiTA0ba10 => (simp only [List.getElem?_toArray, List.getElem?_cons_succ, List.getElem?_cons_zero]; try rfl)
                          case wTA0ba10 => rfl
                          case yTA0ba10 => (intro w hSw; (try dsimp only at hSw); go_simp; (try with_reducible rfl))
                          (try simp only [Act.put, List.setIfInBounds_toArray, List.set_cons_zero, List.set_cons_succ])
                          refine wpAnyH_take (i := 11) (oi := ?oTA0ba11) (v := ?vTA0ba11) ?hiTA0ba11 (by kernel_rfl) (by kernel_rfl) (by kernel_rfl) (fun _ _ _ h => h) (Or.inl ⟨?wTA0ba11, ?yTA0ba11⟩) (by assumption) ?rTA0ba11
                          case hiTA0ba11 => (simp only [List.getElem?_toArray, List.getElem?_cons_succ, List.getElem?_cons_zero]; try rfl)
                          case wTA0ba11 => rfl
                          case yTA0ba11 => (intro w hSw; (try dsimp only at hSw); go_simp; (try with_reducible rfl))
                          (try simp only [Act.put, List.setIfInBounds_toArray, List.set_cons_zero, List.set_cons_succ])
                          refine wpAnyH_ready (rs := [12]) (by kernel_rfl) (by simp) ?_
                          refine AllReadyH.cons (o := ?oTA0ba12) ?hiTA0ba12 (fun K hK => ?_) AllReadyH.nil
                          case hiTA0ba12 => (simp only [List.getElem?_toArray, List.getElem?_cons_succ, List.getElem?_cons_zero]; try rfl)
                          go_simp
                          refine hK.out _ _ (trivial) (fun hHeld => ?_)
                          clear hK K
                          (try simp only [Act.put, List.setIfInBounds_toArray, List.set_cons_zero, List.set_cons_succ])
                          refine wpAnyH_done (by kernel_rfl) ?_ _
                          refine NoPanic.normal ?_
                          go_wp2_with fail
                          go_roundw
                          case rel => exact ⟨i + 1, by omega, by go_num, HNX.out⟩
                          case measure => simp [intOf]; omega
                        · go_simp
                          refine hK.out _ _ (trivial) (fun hHeld => ?_)
                          clear hK K
                          (try simp only [Act.put, List.setIfInBounds_toArray, List.set_cons_zero, List.set_cons_succ])
                          refine wpAnyH_ready (rs := [6]) (by kernel_rfl) (by simp) ?_
                          refine AllReadyH.cons (o := ?oTA0bb6) ?hiTA0bb6 (fun K hK => ?_) AllReadyH.nil
                          case hiTA0bb6 => (simp only [List.getElem?_toArray, List.getElem?_cons_succ, List.getElem?_cons_zero]; try rfl)
                          go_simp
                          refine hK.out _ _ (trivial) (fun hHeld => ?_)
                          clear hK K
                          (try simp only [Act.put, List.setIfInBounds_toArray, List.set_cons_zero, List.set_cons_succ])
                          refine wpAnyH_ready (rs := [9]) (by kernel_rfl) (by simp) ?_
                          refine AllReadyH.cons (o := ?oTA0bb9) ?hiTA0bb9 (fun K hK => ?_) AllReadyH.nil
                          case hiTA0bb9 => (simp only [List.getElem?_toArray, List.getElem?_cons_succ, List.getElem?_cons_zero]; try rfl)
                          refine step_app 29 29 28 (.agg #[.string ByteArray.empty, .string ByteArray.empty]) 2 32 Tryz.underlying29 infoPut rfl (by decide) (by decide) rfl rfl rfl rfl (v := sVal s9) (HOA.out _) (HSrc.out _ rfl) (by omega) ?_
                          intro a7 c7 w7 hown hgr hfr
                          replace hgr : World.grownBy ((w6.alloc (.cells #[.string q8, .string b60] 28 (0, 0))).drew) w7 (sVal s9).ownBlock := hgr
                          replace hfr : (Value.slice a7 ((ps x).length + 1) c7).ownBlock = (sVal s9).ownBlock ∨ (Value.slice a7 ((ps x).length + 1) c7).ownBlock = some ((w6.alloc (.cells #[.string q8, .string b60] 28 (0, 0))).drew).heap.size := hfr
                          have hkd : Keep NoF w6 ((w6.alloc (.cells #[.string q8, .string b60] 28 (0, 0))).drew) := ((Keep.refl NoF w6).alloc _).drew
                          have hO7 : OwnP w7 (.slice a7 ((ps x).length + 1) c7) (ps x ++ [⟨q8, b60⟩]) := by
                            unfold OwnP
                            rw [List.length_append, pvs, List.flatMap_append]
                            exact hown
                          obtain ⟨hk4, hK4x⟩ := HK4X.out
                          obtain ⟨g7, e7, f7, c7c, hA7, d7, d7w⟩ := HA6.out.more HX4.out hkd (by rw [HS9.out]; exact hgr) hO7 (by rw [HS9.out]; exact hfr) k (by rw [glen HN4.out, ← HN4.out]; exact hk4)
                          cases e7
                          simp only [List.getElem_map, gv, hK4x] at hA7
                          have eq7 : (K4.map (gv sp4 (cnUp cn x) (agUp ag x))).set k ⟨x, (a7, (ps x).length + 1, c7), cnUp cn x x, agUp ag x x⟩ = K4.map (gv (fun y => if y = x then (a7, (ps x).length + 1, c7) else sp4 y) (cnUp cn x) (agUp ag x)) := by
                            have := setMapG (f := gv sp4 (cnUp cn x) (agUp ag x)) (f' := gv (fun y => if y = x then (a7, (ps x).length + 1, c7) else sp4 y) (cnUp cn x) (agUp ag x)) HST4.out hk4 (fun y _ hne => by rw [hK4x] at hne; simp only [gv, if_neg hne])
                            rw [hK4x] at this
                            rw [← this]; simp [gv]
                          rw [eq7] at hA7
                          have HNX : Hid (LB w (w7.setCell ⟨g4, k * 4 + 1, none⟩ (.slice a7 ((ps x).length + 1) c7)) p (i + 1) (.slice (some ⟨g4, 0, none⟩) (n + 1) C4)) := Lib.hid ⟨nb + 1, cnUp cn x, (psUp ps x ⟨q8, b60⟩), agUp ag x, K4, _, by omega, HST4.out, fun y => by rw [HKM4.out]; unfold cnUp; by_cases e : y = x; (rw [if_pos e, e]; simp; have := HCX2.out; omega); (rw [if_neg e, HKM.out]; simp [e]), fun y hy => by have h1 : 0 ≤ y ∧ y ≤ 4 := (by rcases (HKM4.out y).1 hy with e | e; (rw [e]; exact hxb); (exact ⟨(HRG.out y e).1, (HRG.out y e).2.1⟩)); unfold agUp; by_cases e : y = x; (rw [if_pos e]; omega); (rw [if_neg e]; have := HRG.out y (((HKM4.out y).1 hy).resolve_left e); omega), fun y q hq => by unfold psUp at hq; by_cases e : y = x; (rw [if_pos e] at hq; rcases List.mem_append.1 hq with h | h; (exact HSZ.out x q h); (rw [List.mem_singleton.1 h]; exact HQS.out)); (rw [if_neg e] at hq; exact HSZ.out y q hq), hA7.free⟩
                          rw [List.getElem_map] at c7c
                          simp only [gv, hK4x, HS9.out] at c7c
                          clear hown hgr hfr hkd hO7 hk4 hK4x eq7 hA7 d7 d7w
                          refine hK.out _ _ (trivial) (fun hHeld => ?_)
                          clear hK K
                          (try simp only [Act.put, List.setIfInBounds_toArray, List.set_cons_zero, List.set_cons_succ])
                          refine wpAnyH_take (i := 10) (oi := ?oTA0bb10) (v := ?vTA0bb10) ?hiTA0bb10 (by kernel_rfl) (by kernel_rfl) (by kernel_rfl) (fun _ _ _ h => h) (Or.inl ⟨?wTA0bb10, ?yTA0bb10⟩) (by assumption) ?rTA0bb10
                          case hiTA0bb10 => (simp only [List.getElem?_toArray, List.getElem?_cons_succ, List.getElem?_cons_zero]; try rfl)
                          case wTA0bb10 => rfl
                          case yTA0bb10 => (intro w hSw; (try dsimp only at hSw); go_simp; (try with_reducible rfl))
                          (try simp only [Act.put, List.setIfInBounds_toArray, List.set_cons_zero, List.set_cons_succ])
                          refine wpAnyH_take (i := 11) (oi := ?oTA0bb11) (v := ?vTA0bb11) ?hiTA0bb11 (by kernel_rfl) (by kernel_rfl) (by kernel_rfl) (fun _ _ _ h => h) (Or.inl ⟨?wTA0bb11, ?yTA0bb11⟩) (by assumption) ?rTA0bb11
                          case hiTA0bb11 => (simp only [List.getElem?_toArray, List.getElem?_cons_succ, List.getElem?_cons_zero]; try rfl)
                          case wTA0bb11 => rfl
                          case yTA0bb11 => (intro w hSw; (try dsimp only at hSw); go_simp; (try with_reducible rfl))
                          (try simp only [Act.put, List.setIfInBounds_toArray, List.set_cons_zero, List.set_cons_succ])
                          refine wpAnyH_ready (rs := [12]) (by kernel_rfl) (by simp) ?_
                          refine AllReadyH.cons (o := ?oTA0bb12) ?hiTA0bb12 (fun K hK => ?_) AllReadyH.nil
                          case hiTA0bb12 => (simp only [List.getElem?_toArray, List.getElem?_cons_succ, List.getElem?_cons_zero]; try rfl)
                          go_simp
                          refine hK.out _ _ (trivial) (fun hHeld => ?_)
                          clear hK K
                          (try simp only [Act.put, List.setIfInBounds_toArray, List.set_cons_zero, List.set_cons_succ])
                          refine wpAnyH_done (by kernel_rfl) ?_ _
                          refine NoPanic.normal ?_
                          go_wp2_with fail
                          go_roundw
                          case rel => exact ⟨i + 1, by omega, by go_num, HNX.out⟩
                          case measure => simp [intOf]; omega
                  · obtain ⟨hkK, hKx⟩ := HIK.out rfl
                    have hkn2 : k < n := by rw [← HN.out]; exact hkK
                    have hkn3 : (k : Int) < n := by omega
                    have hkn4 : decide (n ≤ k) = false := by simp; omega
                    have hxK : x ∈ K := by rw [← hKx]; exact List.getElem_mem _
                    have HXK := Lib.hid hxK; have HKX := Lib.hid hKx
                    have hc1 := (HKM.out x).1 hxK
                    have hcr := HA1.out.cr x
                    clear hxK hKx
                    by_cases hc10 : cn x < 10
                    · obtain ⟨g, rfl, _, _, _, c2, _⟩ := HA1.out.at k (by rw [glen HN.out]; exact hkn2)
                      simp only [List.getElem_map, gv, HKX.out] at c2
                      have HP := Lib.hid (la_put HA1.out x HX.out (by omega) (by omega) ⟨q8, b60⟩)
                      have hd10 : decide (cn x < 10) = true := decide_eq_true hc10
                      obtain ⟨cx, hcx⟩ : ∃ cx, cn x = cx := ⟨_, rfl⟩
                      have HCX := Lib.hid hcx
                      rw [hcx] at c2 hd10 hc10 hc1
                      clear hcr hcx
                      go_wp2_with fail
                      refine HP.out.mono ?_
                      rintro e w3 ⟨rfl, h3, d3⟩
                      have hoW : w3.heap[ob]? = some (.cells #[.int .i64 0, .int .i64 T0, .int .i64 U0, .string pq, .string pb] 50 (0, 0)) := by rw [d3 ob (.inl rfl)]; exact HOW.out
                      have hpW : w3.heap[pbk]? = some (.cells #[.string q8, .string b60] 28 (0, 0)) := by rw [d3 pbk (.inr rfl)]; exact HPB.out
                      replace HOW := Lib.hid hoW; replace HPB := Lib.hid hpW
                      clear hoW hpW
                      have HLP : Hid (LP (fun k => k = ob ∨ k = pbk) w w3 p (nb + 1) cn (cnUp cn x) ps (psUp ps x ⟨q8, b60⟩) ag (agUp ag x) K x k n (.slice (some ⟨g, 0, none⟩) n cp)) := Lib.hid ⟨K, sp, ag, HSTR.out, fun y => ⟨.inr, fun e => e.elim (fun e => by rw [e]; exact HXK.out) id⟩, ⟨by rw [HN.out]; exact hkn2, HKX.out⟩, HN.out, fun _ _ => rfl, h3⟩
                      have hcc : 0 ≤ cn x ∧ cn x < 10 := by have := HCX.out; omega
                      clear h3 d3 c2 hd10 hc10 hc1 co0 cp0 cp1
                      have co0 := cell_of_heap HOW.out 0
                      simp at co0
                      obtain ⟨K4, sp4, ag4, hst4, hkm4, ⟨hk4, hK4x⟩, hn4, hag4, hA4⟩ := HLP.out
                      obtain ⟨g, e4, -, -, -, c2, -⟩ := hA4.at k (by rw [glen hn4, ← hn4]; exact hk4)
                      cases e4
                      simp only [List.getElem_map, gv, hK4x] at c2
                      obtain ⟨g5, e5, f1, hA5, d5, -⟩ := hA4.store k 2 (by rw [glen hn4, ← hn4]; exact hk4) (by omega) (gv sp4 (cnUp cn x) ag4 x) (.int .i64 (cn x + 1)) (by rw [List.getElem_map, hK4x]; unfold gv gC cnUp; simp)
                      cases e5
                      have eq5 : (K4.map (gv sp4 cn ag4)).set k (gv sp4 (cnUp cn x) ag4 x) = K4.map (gv sp4 (cnUp cn x) ag4) := by
                        have := setMapG (f := gv sp4 cn ag4) (f' := gv sp4 (cnUp cn x) ag4) hst4 hk4 (fun y _ hne => by rw [hK4x] at hne; unfold gv cnUp; rw [if_neg hne])
                        rw [hK4x] at this; exact this
                      rw [eq5] at hA5
                      obtain ⟨g6, e6, f2, hA6, d6, -⟩ := hA5.store k 3 (by rw [glen hn4, ← hn4]; exact hk4) (by omega) (gv sp4 (cnUp cn x) (agUp ag x) x) (.int .i64 0) (by rw [List.getElem_map, hK4x]; unfold gv gC agUp; simp)
                      cases e6
                      have eq6 : (K4.map (gv sp4 (cnUp cn x) ag4)).set k (gv sp4 (cnUp cn x) (agUp ag x) x) = K4.map (gv sp4 (cnUp cn x) (agUp ag x)) := by
                        have := setMapG (f := gv sp4 (cnUp cn x) ag4) (f' := gv sp4 (cnUp cn x) (agUp ag x)) hst4 hk4 (fun y _ hne => by rw [hK4x] at hne; unfold gv; rw [hag4 y hne]; unfold agUp; rw [if_neg hne])
                        rw [hK4x] at this; exact this
                      rw [eq6] at hA6
                      obtain ⟨_, e7, -, -, -, -, c3⟩ := hA5.at k (by rw [glen hn4, ← hn4]; exact hk4)
                      cases e7
                      simp only [List.getElem_map, gv, hK4x] at c3
                      obtain ⟨cx, hcx⟩ : ∃ cx, cn x = cx := ⟨_, rfl⟩
                      rw [hcx] at c2 hA5 d5 f2 hA6 d6 hcc c3
                      generalize ag4 x = a9 at c3
                      have hkN : k < n := by rw [← hn4]; exact hk4
                      have hkN2 : (k : Int) < ((n : Nat) : Int) := by omega
                      have hkN3 : decide (n ≤ k) = false := by simp; omega
                      have hkN4 : (k : Int) < (n : Int) + 1 := by omega
                      have hws : IntKind.i64.wrap (cx + 1) = cx + 1 := IntWalk.i64_in _ (by omega)
                      obtain ⟨w5, hw5⟩ : ∃ W, w3.setCell ⟨g, k * 4 + 2, none⟩ (.int .i64 (cx + 1)) = W := ⟨_, rfl⟩
                      rw [hw5] at hA5 d5 f2 hA6 d6 c3
                      obtain ⟨w6, hw6⟩ : ∃ W, w5.setCell ⟨g, k * 4 + 3, none⟩ (.int .i64 0) = W := ⟨_, rfl⟩
                      rw [hw6] at hA6 d6
                      have HA6 := Lib.hid hA6; have HST4 := Lib.hid hst4; have HKM4 := Lib.hid hkm4; have HK4X : Hid (∃ hk : k < K4.length, K4[k] = x) := Lib.hid ⟨hk4, hK4x⟩; have HN4 := Lib.hid hn4; have HCX2 := Lib.hid hcx; have HF2 := Lib.hid f2; have HC3 := Lib.hid c3; have HW5 := Lib.hid hw5; have HW6 := Lib.hid hw6
                      have hoW : w6.heap[ob]? = some (.cells #[.int .i64 0, .int .i64 T0, .int .i64 U0, .string pq, .string pb] 50 (0, 0)) := by rw [d6 ob (.inl rfl), d5 ob (.inl rfl)]; exact HOW.out
                      have hpW : w6.heap[pbk]? = some (.cells #[.string q8, .string b60] 28 (0, 0)) := by rw [d6 pbk (.inr rfl), d5 pbk (.inr rfl)]; exact HPB.out
                      have HO6 := Lib.hid hoW; have HP6 := Lib.hid hpW
                      clear hA4 hA5 hA6 hst4 hkm4 hk4 hK4x hn4 hag4 eq5 eq6 hcx f2 c3 hw5 hw6 d5 d6 hoW hpW HLP
                      go_upto_region 36 with fail
                      (try clear co0)
                      rw [HW5.out]
                      clear c2 f1 hws
                      have f2 := HF2.out; have c3 := HC3.out
                      go_upto_region 37 with fail
                      rw [HW6.out]
                      clear f2 c3
                      have co0 := cell_of_heap HO6.out 0
                      simp at co0
                      obtain ⟨hk4, hK4x⟩ := HK4X.out
                      have hx4 : x ∈ K4 := (HKM4.out x).2 (.inl rfl)
                      have ho6 := HA6.out.own hx4
                      have hcr6 := HA6.out.cr
                      obtain ⟨_, e7, -, -, c1, -⟩ := HA6.out.at k (by rw [glen HN4.out, ← HN4.out]; exact hk4)
                      cases e7
                      simp only [List.getElem_map, gv, hK4x] at c1
                      obtain ⟨s9, hs9⟩ : ∃ s, sp4 x = s := ⟨_, rfl⟩
                      rw [hs9] at ho6 c1
                      have hlen : (ps x).length ≤ 10 := by have := HA1.out.cr x; omega
                      have HS9 := Lib.hid hs9; have HX4 := Lib.hid hx4
                      have HOA : Hid (∀ o, ((w6.alloc o).drew).ownsRow 0 28 2 (sVal s9) (ps x).length (pvs (ps x))) := Lib.hid fun o => OwnP.keep ho6 ((Keep.refl NoF w6).alloc o).drew (fun _ _ f => f)
                      have hSrc : ∀ o : Obj, o = .cells #[.string q8, .string b60] 28 (0, 0) → Src Tryz.prog 2 29 (.slice (some ⟨w6.heap.size, 0, none⟩) 1 1) 1 [.string q8, .string b60] ((w6.alloc o).drew) := by
                        rintro o rfl
                        exact Src.two Tryz.underlying29 (show ((w6.alloc (.cells #[.string q8, .string b60] 28 (0, 0))).drew).heap[w6.heap.size]? = _ from heap_new w6 _) 1
                      have HSrc := Lib.hid hSrc
                      have cp0 := cell_of_heap HP6.out 0
                      have cp1 := cell_of_heap HP6.out 1
                      simp at cp0 cp1
                      have c1a : ∀ o, (w6.alloc o).cell? ⟨g, k * 4 + 1, none⟩ = some (sVal s9) := fun o => ((Keep.refl NoF w6).alloc o).cell' c1 (fun f => f)
                      clear hSrc hs9 hx4 ho6 hcr6 hk4 hK4x
                      obtain ⟨C4, hC4⟩ : ∃ C : Nat, cp = C := ⟨_, rfl⟩
                      rw [hC4] at HA6 ⊢
                      clear hC4
                      go_upto_region 38 with fail
                      refine wp_region_noPanic ?_
                      refine wp_region_held_drew (S := (fun _ : World => True)) (by kernel_rfl) (trivial) (fun hHeld => ?_)
                      refine wpAnyH_take (i := 0) (oi := ?oTB00) (v := ?vTB00) ?hiTB00 (by kernel_rfl) (by kernel_rfl) (by kernel_rfl) (fun _ _ _ h => h) (Or.inl ⟨?wTB00, ?yTB00⟩) (by assumption) ?rTB00
                      case hiTB00 => (simp only [List.getElem?_toArray, List.getElem?_cons_zero]; try rfl)
                      case wTB00 => rfl
                      case yTB00 => (intro w hSw; (try dsimp only at hSw); go_simp; (try with_reducible rfl))
                      (try simp only [Act.put, List.setIfInBounds_toArray, List.set_cons_zero, List.set_cons_succ])
                      refine wpAnyH_take (i := 1) (oi := ?oTB01) (v := ?vTB01) ?hiTB01 (by kernel_rfl) (by kernel_rfl) (by kernel_rfl) (fun _ _ _ h => h) (Or.inl ⟨?wTB01, ?yTB01⟩) (by assumption) ?rTB01
                      case hiTB01 => (simp only [List.getElem?_toArray, List.getElem?_cons_succ, List.getElem?_cons_zero]; try rfl)
                      case wTB01 => rfl
                      case yTB01 => (intro w hSw; (try dsimp only at hSw); go_simp; (try with_reducible rfl))
                      (try simp only [Act.put, List.setIfInBounds_toArray, List.set_cons_zero, List.set_cons_succ])
                      refine wpAnyH_take (i := 2) (oi := ?oTB02) (v := ?vTB02) ?hiTB02 (by kernel_rfl) (by kernel_rfl) (by kernel_rfl) (fun _ _ _ h => h) (Or.inl ⟨?wTB02, ?yTB02⟩) (by assumption) ?rTB02
                      case hiTB02 => (simp only [List.getElem?_toArray, List.getElem?_cons_succ, List.getElem?_cons_zero]; try rfl)
                      case wTB02 => rfl
                      case yTB02 => (intro w hSw; (try dsimp only at hSw); go_simp; (try with_reducible rfl))
                      (try simp only [Act.put, List.setIfInBounds_toArray, List.set_cons_zero, List.set_cons_succ])
                      refine wpAnyH_take (i := 3) (oi := ?oTB03) (v := ?vTB03) ?hiTB03 (by kernel_rfl) (by kernel_rfl) (by kernel_rfl) (fun _ _ _ h => h) (Or.inl ⟨?wTB03, ?yTB03⟩) (by assumption) ?rTB03
                      case hiTB03 => (simp only [List.getElem?_toArray, List.getElem?_cons_succ, List.getElem?_cons_zero]; try rfl)
                      case wTB03 => rfl
                      case yTB03 => (intro w hSw; (try dsimp only at hSw); go_simp; (try with_reducible rfl))
                      (try simp only [Act.put, List.setIfInBounds_toArray, List.set_cons_zero, List.set_cons_succ])
                      refine wpAnyH_take (i := 4) (oi := ?oTB04) (v := ?vTB04) ?hiTB04 (by kernel_rfl) (by kernel_rfl) (by kernel_rfl) (fun _ _ _ h => h) (Or.inl ⟨?wTB04, ?yTB04⟩) (by assumption) ?rTB04
                      case hiTB04 => (simp only [List.getElem?_toArray, List.getElem?_cons_succ, List.getElem?_cons_zero]; try rfl)
                      case wTB04 => rfl
                      case yTB04 => (intro w hSw; (try dsimp only at hSw); go_simp; (try with_reducible rfl))
                      (try simp only [Act.put, List.setIfInBounds_toArray, List.set_cons_zero, List.set_cons_succ])
                      refine wpAnyH_take (i := 5) (oi := ?oTB05) (v := ?vTB05) ?hiTB05 (by kernel_rfl) (by kernel_rfl) (by kernel_rfl) (fun _ _ _ h => h) (Or.inl ⟨?wTB05, ?yTB05⟩) (by assumption) ?rTB05
                      case hiTB05 => (simp only [List.getElem?_toArray, List.getElem?_cons_succ, List.getElem?_cons_zero]; try rfl)
                      case wTB05 => rfl
                      case yTB05 => (intro w hSw; (try dsimp only at hSw); go_simp; (try with_reducible rfl))
                      (try simp only [Act.put, List.setIfInBounds_toArray, List.set_cons_zero, List.set_cons_succ])
                      refine wpAnyH_ready (rs := [6, 7]) (by kernel_rfl) (by simp) ?_
                      refine (AllReadyH.cons (o := ?oTB06) ?hiTB06 (fun K hK => ?_) (AllReadyH.cons (o := ?oTB07) ?hiTB07 (fun K hK => ?_) AllReadyH.nil))
                      case hiTB06 => (simp only [List.getElem?_toArray, List.getElem?_cons_succ, List.getElem?_cons_zero]; try rfl)
                      case hiTB07 => (simp only [List.getElem?_toArray, List.getElem?_cons_succ, List.getElem?_cons_zero]; try rfl)
                      · go_simp
                        refine hK.out _ _ (trivial) (fun hHeld => ?_)
                        clear hK K
                        (try simp only [Act.put, List.setIfInBounds_toArray, List.set_cons_zero, List.set_cons_succ])
                        refine wpAnyH_ready (rs := [7]) (by kernel_rfl) (by simp) ?_
                        refine AllReadyH.cons (o := ?oTB0a7) ?hiTB0a7 (fun K hK => ?_) AllReadyH.nil
                        case hiTB0a7 => (simp only [List.getElem?_toArray, List.getElem?_cons_succ, List.getElem?_cons_zero]; try rfl)
                        go_simp
                        refine hK.out _ _ (trivial) (fun hHeld => ?_)
                        clear hK K
                        (try simp only [Act.put, List.setIfInBounds_toArray, List.set_cons_zero, List.set_cons_succ])
                        refine wpAnyH_ready (rs := [8]) (by kernel_rfl) (by simp) ?_
                        refine AllReadyH.cons (o := ?oTB0a8) ?hiTB0a8 (fun K hK => ?_) AllReadyH.nil
                        case hiTB0a8 => (simp only [List.getElem?_toArray, List.getElem?_cons_succ, List.getElem?_cons_zero]; try rfl)
                        go_simp
                        refine hK.out _ _ (trivial) (fun hHeld => ?_)
                        clear hK K
                        (try simp only [Act.put, List.setIfInBounds_toArray, List.set_cons_zero, List.set_cons_succ])
                        refine wpAnyH_ready (rs := [9]) (by kernel_rfl) (by simp) ?_
                        refine AllReadyH.cons (o := ?oTB0a9) ?hiTB0a9 (fun K hK => ?_) AllReadyH.nil
                        case hiTB0a9 => (simp only [List.getElem?_toArray, List.getElem?_cons_succ, List.getElem?_cons_zero]; try rfl)
                        refine step_app 29 29 28 (.agg #[.string ByteArray.empty, .string ByteArray.empty]) 2 32 Tryz.underlying29 infoPut rfl (by decide) (by decide) rfl rfl rfl rfl (v := sVal s9) (HOA.out _) (HSrc.out _ rfl) (by omega) ?_
                        intro a7 c7 w7 hown hgr hfr
                        replace hgr : World.grownBy ((w6.alloc (.cells #[.string q8, .string b60] 28 (0, 0))).drew) w7 (sVal s9).ownBlock := hgr
                        replace hfr : (Value.slice a7 ((ps x).length + 1) c7).ownBlock = (sVal s9).ownBlock ∨ (Value.slice a7 ((ps x).length + 1) c7).ownBlock = some ((w6.alloc (.cells #[.string q8, .string b60] 28 (0, 0))).drew).heap.size := hfr
                        have hkd : Keep NoF w6 ((w6.alloc (.cells #[.string q8, .string b60] 28 (0, 0))).drew) := ((Keep.refl NoF w6).alloc _).drew
                        have hO7 : OwnP w7 (.slice a7 ((ps x).length + 1) c7) (ps x ++ [⟨q8, b60⟩]) := by
                          unfold OwnP
                          rw [List.length_append, pvs, List.flatMap_append]
                          exact hown
                        obtain ⟨hk4, hK4x⟩ := HK4X.out
                        obtain ⟨g7, e7, f7, c7c, hA7, d7, d7w⟩ := HA6.out.more HX4.out hkd (by rw [HS9.out]; exact hgr) hO7 (by rw [HS9.out]; exact hfr) k (by rw [glen HN4.out, ← HN4.out]; exact hk4)
                        cases e7
                        simp only [List.getElem_map, gv, hK4x] at hA7
                        have eq7 : (K4.map (gv sp4 (cnUp cn x) (agUp ag x))).set k ⟨x, (a7, (ps x).length + 1, c7), cnUp cn x x, agUp ag x x⟩ = K4.map (gv (fun y => if y = x then (a7, (ps x).length + 1, c7) else sp4 y) (cnUp cn x) (agUp ag x)) := by
                          have := setMapG (f := gv sp4 (cnUp cn x) (agUp ag x)) (f' := gv (fun y => if y = x then (a7, (ps x).length + 1, c7) else sp4 y) (cnUp cn x) (agUp ag x)) HST4.out hk4 (fun y _ hne => by rw [hK4x] at hne; simp only [gv, if_neg hne])
                          rw [hK4x] at this
                          rw [← this]; simp [gv]
                        rw [eq7] at hA7
                        have HNX : Hid (LB w (w7.setCell ⟨g, k * 4 + 1, none⟩ (.slice a7 ((ps x).length + 1) c7)) p (i + 1) (.slice (some ⟨g, 0, none⟩) (n) C4)) := Lib.hid ⟨nb + 1, cnUp cn x, (psUp ps x ⟨q8, b60⟩), agUp ag x, K4, _, by omega, HST4.out, fun y => by rw [HKM4.out]; unfold cnUp; by_cases e : y = x; (rw [if_pos e, e]; simp; have := HCX2.out; omega); (rw [if_neg e, HKM.out]; simp [e]), fun y hy => by have h1 : 0 ≤ y ∧ y ≤ 4 := (by rcases (HKM4.out y).1 hy with e | e; (rw [e]; exact hxb); (exact ⟨(HRG.out y e).1, (HRG.out y e).2.1⟩)); unfold agUp; by_cases e : y = x; (rw [if_pos e]; omega); (rw [if_neg e]; have := HRG.out y (((HKM4.out y).1 hy).resolve_left e); omega), fun y q hq => by unfold psUp at hq; by_cases e : y = x; (rw [if_pos e] at hq; rcases List.mem_append.1 hq with h | h; (exact HSZ.out x q h); (rw [List.mem_singleton.1 h]; exact HQS.out)); (rw [if_neg e] at hq; exact HSZ.out y q hq), hA7.free⟩
                        rw [List.getElem_map] at c7c
                        simp only [gv, hK4x, HS9.out] at c7c
                        clear hown hgr hfr hkd hO7 hk4 hK4x eq7 hA7 d7 d7w
                        refine hK.out _ _ (trivial) (fun hHeld => ?_)
                        clear hK K
                        (try simp only [Act.put, List.setIfInBounds_toArray, List.set_cons_zero, List.set_cons_succ])
                        refine wpAnyH_take (i := 10) (oi := ?oTB0a10) (v := ?vTB0a10) ?hiTB0a10 (by kernel_rfl) (by kernel_rfl) (by kernel_rfl) (fun _ _ _ h => h) (Or.inl ⟨?wTB0a10, ?yTB0a10⟩) (by assumption) ?rTB0a10
                        case hiTB0a10 => (simp only [List.getElem?_toArray, List.getElem?_cons_succ, List.getElem?_cons_zero]; try rfl)
                        case wTB0a10 => rfl
                        case yTB0a10 => (intro w hSw; (try dsimp only at hSw); go_simp; (try with_reducible rfl))
                        (try simp only [Act.put, List.setIfInBounds_toArray, List.set_cons_zero, List.set_cons_succ])
                        refine wpAnyH_take (i := 11) (oi := ?oTB0a11) (v := ?vTB0a11) ?hiTB0a11 (by kernel_rfl) (by kernel_rfl) (by kernel_rfl) (fun _ _ _ h => h) (Or.inl ⟨?wTB0a11, ?yTB0a11⟩) (by assumption) ?rTB0a11
                        case hiTB0a11 => (simp only [List.getElem?_toArray, List.getElem?_cons_succ, List.getElem?_cons_zero]; try rfl)
                        case wTB0a11 => rfl
                        case yTB0a11 => (intro w hSw; (try dsimp only at hSw); go_simp; (try with_reducible rfl))
                        (try simp only [Act.put, List.setIfInBounds_toArray, List.set_cons_zero, List.set_cons_succ])
                        refine wpAnyH_ready (rs := [12]) (by kernel_rfl) (by simp) ?_
                        refine AllReadyH.cons (o := ?oTB0a12) ?hiTB0a12 (fun K hK => ?_) AllReadyH.nil
                        case hiTB0a12 => (simp only [List.getElem?_toArray, List.getElem?_cons_succ, List.getElem?_cons_zero]; try rfl)
                        go_simp
                        refine hK.out _ _ (trivial) (fun hHeld => ?_)
                        clear hK K
                        (try simp only [Act.put, List.setIfInBounds_toArray, List.set_cons_zero, List.set_cons_succ])
                        refine wpAnyH_done (by kernel_rfl) ?_ _
                        refine NoPanic.normal ?_
                        go_wp2_with fail
                        go_roundw
                        case rel => exact ⟨i + 1, by omega, by go_num, HNX.out⟩
                        case measure => simp [intOf]; omega
                      · go_simp
                        refine hK.out _ _ (trivial) (fun hHeld => ?_)
                        clear hK K
                        (try simp only [Act.put, List.setIfInBounds_toArray, List.set_cons_zero, List.set_cons_succ])
                        refine wpAnyH_ready (rs := [6, 8]) (by kernel_rfl) (by simp) ?_
                        refine (AllReadyH.cons (o := ?oTB0b6) ?hiTB0b6 (fun K hK => ?_) (AllReadyH.cons (o := ?oTB0b8) ?hiTB0b8 (fun K hK => ?_) AllReadyH.nil))
                        case hiTB0b6 => (simp only [List.getElem?_toArray, List.getElem?_cons_succ, List.getElem?_cons_zero]; try rfl)
                        case hiTB0b8 => (simp only [List.getElem?_toArray, List.getElem?_cons_succ, List.getElem?_cons_zero]; try rfl)
                        · go_simp
                          refine hK.out _ _ (trivial) (fun hHeld => ?_)
                          clear hK K
                          (try simp only [Act.put, List.setIfInBounds_toArray, List.set_cons_zero, List.set_cons_succ])
                          refine wpAnyH_ready (rs := [8]) (by kernel_rfl) (by simp) ?_
                          refine AllReadyH.cons (o := ?oTB0ba8) ?hiTB0ba8 (fun K hK => ?_) AllReadyH.nil
                          case hiTB0ba8 => (simp only [List.getElem?_toArray, List.getElem?_cons_succ, List.getElem?_cons_zero]; try rfl)
                          go_simp
                          refine hK.out _ _ (trivial) (fun hHeld => ?_)
                          clear hK K
                          (try simp only [Act.put, List.setIfInBounds_toArray, List.set_cons_zero, List.set_cons_succ])
                          refine wpAnyH_ready (rs := [9]) (by kernel_rfl) (by simp) ?_
                          refine AllReadyH.cons (o := ?oTB0ba9) ?hiTB0ba9 (fun K hK => ?_) AllReadyH.nil
                          case hiTB0ba9 => (simp only [List.getElem?_toArray, List.getElem?_cons_succ, List.getElem?_cons_zero]; try rfl)
                          refine step_app 29 29 28 (.agg #[.string ByteArray.empty, .string ByteArray.empty]) 2 32 Tryz.underlying29 infoPut rfl (by decide) (by decide) rfl rfl rfl rfl (v := sVal s9) (HOA.out _) (HSrc.out _ rfl) (by omega) ?_
                          intro a7 c7 w7 hown hgr hfr
                          replace hgr : World.grownBy ((w6.alloc (.cells #[.string q8, .string b60] 28 (0, 0))).drew) w7 (sVal s9).ownBlock := hgr
                          replace hfr : (Value.slice a7 ((ps x).length + 1) c7).ownBlock = (sVal s9).ownBlock ∨ (Value.slice a7 ((ps x).length + 1) c7).ownBlock = some ((w6.alloc (.cells #[.string q8, .string b60] 28 (0, 0))).drew).heap.size := hfr
                          have hkd : Keep NoF w6 ((w6.alloc (.cells #[.string q8, .string b60] 28 (0, 0))).drew) := ((Keep.refl NoF w6).alloc _).drew
                          have hO7 : OwnP w7 (.slice a7 ((ps x).length + 1) c7) (ps x ++ [⟨q8, b60⟩]) := by
                            unfold OwnP
                            rw [List.length_append, pvs, List.flatMap_append]
                            exact hown
                          obtain ⟨hk4, hK4x⟩ := HK4X.out
                          obtain ⟨g7, e7, f7, c7c, hA7, d7, d7w⟩ := HA6.out.more HX4.out hkd (by rw [HS9.out]; exact hgr) hO7 (by rw [HS9.out]; exact hfr) k (by rw [glen HN4.out, ← HN4.out]; exact hk4)
                          cases e7
                          simp only [List.getElem_map, gv, hK4x] at hA7
                          have eq7 : (K4.map (gv sp4 (cnUp cn x) (agUp ag x))).set k ⟨x, (a7, (ps x).length + 1, c7), cnUp cn x x, agUp ag x x⟩ = K4.map (gv (fun y => if y = x then (a7, (ps x).length + 1, c7) else sp4 y) (cnUp cn x) (agUp ag x)) := by
                            have := setMapG (f := gv sp4 (cnUp cn x) (agUp ag x)) (f' := gv (fun y => if y = x then (a7, (ps x).length + 1, c7) else sp4 y) (cnUp cn x) (agUp ag x)) HST4.out hk4 (fun y _ hne => by rw [hK4x] at hne; simp only [gv, if_neg hne])
                            rw [hK4x] at this
                            rw [← this]; simp [gv]
                          rw [eq7] at hA7
                          have HNX : Hid (LB w (w7.setCell ⟨g, k * 4 + 1, none⟩ (.slice a7 ((ps x).length + 1) c7)) p (i + 1) (.slice (some ⟨g, 0, none⟩) (n) C4)) := Lib.hid ⟨nb + 1, cnUp cn x, (psUp ps x ⟨q8, b60⟩), agUp ag x, K4, _, by omega, HST4.out, fun y => by rw [HKM4.out]; unfold cnUp; by_cases e : y = x; (rw [if_pos e, e]; simp; have := HCX2.out; omega); (rw [if_neg e, HKM.out]; simp [e]), fun y hy => by have h1 : 0 ≤ y ∧ y ≤ 4 := (by rcases (HKM4.out y).1 hy with e | e; (rw [e]; exact hxb); (exact ⟨(HRG.out y e).1, (HRG.out y e).2.1⟩)); unfold agUp; by_cases e : y = x; (rw [if_pos e]; omega); (rw [if_neg e]; have := HRG.out y (((HKM4.out y).1 hy).resolve_left e); omega), fun y q hq => by unfold psUp at hq; by_cases e : y = x; (rw [if_pos e] at hq; rcases List.mem_append.1 hq with h | h; (exact HSZ.out x q h); (rw [List.mem_singleton.1 h]; exact HQS.out)); (rw [if_neg e] at hq; exact HSZ.out y q hq), hA7.free⟩
                          rw [List.getElem_map] at c7c
                          simp only [gv, hK4x, HS9.out] at c7c
                          clear hown hgr hfr hkd hO7 hk4 hK4x eq7 hA7 d7 d7w
                          refine hK.out _ _ (trivial) (fun hHeld => ?_)
                          clear hK K
                          (try simp only [Act.put, List.setIfInBounds_toArray, List.set_cons_zero, List.set_cons_succ])
                          refine wpAnyH_take (i := 10) (oi := ?oTB0ba10) (v := ?vTB0ba10) ?hiTB0ba10 (by kernel_rfl) (by kernel_rfl) (by kernel_rfl) (fun _ _ _ h => h) (Or.inl ⟨?wTB0ba10, ?yTB0ba10⟩) (by assumption) ?rTB0ba10
                          case hiTB0ba10 => (simp only [List.getElem?_toArray, List.getElem?_cons_succ, List.getElem?_cons_zero]; try rfl)
                          case wTB0ba10 => rfl
                          case yTB0ba10 => (intro w hSw; (try dsimp only at hSw); go_simp; (try with_reducible rfl))
                          (try simp only [Act.put, List.setIfInBounds_toArray, List.set_cons_zero, List.set_cons_succ])
                          refine wpAnyH_take (i := 11) (oi := ?oTB0ba11) (v := ?vTB0ba11) ?hiTB0ba11 (by kernel_rfl) (by kernel_rfl) (by kernel_rfl) (fun _ _ _ h => h) (Or.inl ⟨?wTB0ba11, ?yTB0ba11⟩) (by assumption) ?rTB0ba11
                          case hiTB0ba11 => (simp only [List.getElem?_toArray, List.getElem?_cons_succ, List.getElem?_cons_zero]; try rfl)
                          case wTB0ba11 => rfl
                          case yTB0ba11 => (intro w hSw; (try dsimp only at hSw); go_simp; (try with_reducible rfl))
                          (try simp only [Act.put, List.setIfInBounds_toArray, List.set_cons_zero, List.set_cons_succ])
                          refine wpAnyH_ready (rs := [12]) (by kernel_rfl) (by simp) ?_
                          refine AllReadyH.cons (o := ?oTB0ba12) ?hiTB0ba12 (fun K hK => ?_) AllReadyH.nil
                          case hiTB0ba12 => (simp only [List.getElem?_toArray, List.getElem?_cons_succ, List.getElem?_cons_zero]; try rfl)
                          go_simp
                          refine hK.out _ _ (trivial) (fun hHeld => ?_)
                          clear hK K
                          (try simp only [Act.put, List.setIfInBounds_toArray, List.set_cons_zero, List.set_cons_succ])
                          refine wpAnyH_done (by kernel_rfl) ?_ _
                          refine NoPanic.normal ?_
                          go_wp2_with fail
                          go_roundw
                          case rel => exact ⟨i + 1, by omega, by go_num, HNX.out⟩
                          case measure => simp [intOf]; omega
                        · go_simp
                          refine hK.out _ _ (trivial) (fun hHeld => ?_)
                          clear hK K
                          (try simp only [Act.put, List.setIfInBounds_toArray, List.set_cons_zero, List.set_cons_succ])
                          refine wpAnyH_ready (rs := [6]) (by kernel_rfl) (by simp) ?_
                          refine AllReadyH.cons (o := ?oTB0bb6) ?hiTB0bb6 (fun K hK => ?_) AllReadyH.nil
                          case hiTB0bb6 => (simp only [List.getElem?_toArray, List.getElem?_cons_succ, List.getElem?_cons_zero]; try rfl)
                          go_simp
                          refine hK.out _ _ (trivial) (fun hHeld => ?_)
                          clear hK K
                          (try simp only [Act.put, List.setIfInBounds_toArray, List.set_cons_zero, List.set_cons_succ])
                          refine wpAnyH_ready (rs := [9]) (by kernel_rfl) (by simp) ?_
                          refine AllReadyH.cons (o := ?oTB0bb9) ?hiTB0bb9 (fun K hK => ?_) AllReadyH.nil
                          case hiTB0bb9 => (simp only [List.getElem?_toArray, List.getElem?_cons_succ, List.getElem?_cons_zero]; try rfl)
                          refine step_app 29 29 28 (.agg #[.string ByteArray.empty, .string ByteArray.empty]) 2 32 Tryz.underlying29 infoPut rfl (by decide) (by decide) rfl rfl rfl rfl (v := sVal s9) (HOA.out _) (HSrc.out _ rfl) (by omega) ?_
                          intro a7 c7 w7 hown hgr hfr
                          replace hgr : World.grownBy ((w6.alloc (.cells #[.string q8, .string b60] 28 (0, 0))).drew) w7 (sVal s9).ownBlock := hgr
                          replace hfr : (Value.slice a7 ((ps x).length + 1) c7).ownBlock = (sVal s9).ownBlock ∨ (Value.slice a7 ((ps x).length + 1) c7).ownBlock = some ((w6.alloc (.cells #[.string q8, .string b60] 28 (0, 0))).drew).heap.size := hfr
                          have hkd : Keep NoF w6 ((w6.alloc (.cells #[.string q8, .string b60] 28 (0, 0))).drew) := ((Keep.refl NoF w6).alloc _).drew
                          have hO7 : OwnP w7 (.slice a7 ((ps x).length + 1) c7) (ps x ++ [⟨q8, b60⟩]) := by
                            unfold OwnP
                            rw [List.length_append, pvs, List.flatMap_append]
                            exact hown
                          obtain ⟨hk4, hK4x⟩ := HK4X.out
                          obtain ⟨g7, e7, f7, c7c, hA7, d7, d7w⟩ := HA6.out.more HX4.out hkd (by rw [HS9.out]; exact hgr) hO7 (by rw [HS9.out]; exact hfr) k (by rw [glen HN4.out, ← HN4.out]; exact hk4)
                          cases e7
                          simp only [List.getElem_map, gv, hK4x] at hA7
                          have eq7 : (K4.map (gv sp4 (cnUp cn x) (agUp ag x))).set k ⟨x, (a7, (ps x).length + 1, c7), cnUp cn x x, agUp ag x x⟩ = K4.map (gv (fun y => if y = x then (a7, (ps x).length + 1, c7) else sp4 y) (cnUp cn x) (agUp ag x)) := by
                            have := setMapG (f := gv sp4 (cnUp cn x) (agUp ag x)) (f' := gv (fun y => if y = x then (a7, (ps x).length + 1, c7) else sp4 y) (cnUp cn x) (agUp ag x)) HST4.out hk4 (fun y _ hne => by rw [hK4x] at hne; simp only [gv, if_neg hne])
                            rw [hK4x] at this
                            rw [← this]; simp [gv]
                          rw [eq7] at hA7
                          have HNX : Hid (LB w (w7.setCell ⟨g, k * 4 + 1, none⟩ (.slice a7 ((ps x).length + 1) c7)) p (i + 1) (.slice (some ⟨g, 0, none⟩) (n) C4)) := Lib.hid ⟨nb + 1, cnUp cn x, (psUp ps x ⟨q8, b60⟩), agUp ag x, K4, _, by omega, HST4.out, fun y => by rw [HKM4.out]; unfold cnUp; by_cases e : y = x; (rw [if_pos e, e]; simp; have := HCX2.out; omega); (rw [if_neg e, HKM.out]; simp [e]), fun y hy => by have h1 : 0 ≤ y ∧ y ≤ 4 := (by rcases (HKM4.out y).1 hy with e | e; (rw [e]; exact hxb); (exact ⟨(HRG.out y e).1, (HRG.out y e).2.1⟩)); unfold agUp; by_cases e : y = x; (rw [if_pos e]; omega); (rw [if_neg e]; have := HRG.out y (((HKM4.out y).1 hy).resolve_left e); omega), fun y q hq => by unfold psUp at hq; by_cases e : y = x; (rw [if_pos e] at hq; rcases List.mem_append.1 hq with h | h; (exact HSZ.out x q h); (rw [List.mem_singleton.1 h]; exact HQS.out)); (rw [if_neg e] at hq; exact HSZ.out y q hq), hA7.free⟩
                          rw [List.getElem_map] at c7c
                          simp only [gv, hK4x, HS9.out] at c7c
                          clear hown hgr hfr hkd hO7 hk4 hK4x eq7 hA7 d7 d7w
                          refine hK.out _ _ (trivial) (fun hHeld => ?_)
                          clear hK K
                          (try simp only [Act.put, List.setIfInBounds_toArray, List.set_cons_zero, List.set_cons_succ])
                          refine wpAnyH_take (i := 10) (oi := ?oTB0bb10) (v := ?vTB0bb10) ?hiTB0bb10 (by kernel_rfl) (by kernel_rfl) (by kernel_rfl) (fun _ _ _ h => h) (Or.inl ⟨?wTB0bb10, ?yTB0bb10⟩) (by assumption) ?rTB0bb10
                          case hiTB0bb10 => (simp only [List.getElem?_toArray, List.getElem?_cons_succ, List.getElem?_cons_zero]; try rfl)
                          case wTB0bb10 => rfl
                          case yTB0bb10 => (intro w hSw; (try dsimp only at hSw); go_simp; (try with_reducible rfl))
                          (try simp only [Act.put, List.setIfInBounds_toArray, List.set_cons_zero, List.set_cons_succ])
                          refine wpAnyH_take (i := 11) (oi := ?oTB0bb11) (v := ?vTB0bb11) ?hiTB0bb11 (by kernel_rfl) (by kernel_rfl) (by kernel_rfl) (fun _ _ _ h => h) (Or.inl ⟨?wTB0bb11, ?yTB0bb11⟩) (by assumption) ?rTB0bb11
                          case hiTB0bb11 => (simp only [List.getElem?_toArray, List.getElem?_cons_succ, List.getElem?_cons_zero]; try rfl)
                          case wTB0bb11 => rfl
                          case yTB0bb11 => (intro w hSw; (try dsimp only at hSw); go_simp; (try with_reducible rfl))
                          (try simp only [Act.put, List.setIfInBounds_toArray, List.set_cons_zero, List.set_cons_succ])
                          refine wpAnyH_ready (rs := [12]) (by kernel_rfl) (by simp) ?_
                          refine AllReadyH.cons (o := ?oTB0bb12) ?hiTB0bb12 (fun K hK => ?_) AllReadyH.nil
                          case hiTB0bb12 => (simp only [List.getElem?_toArray, List.getElem?_cons_succ, List.getElem?_cons_zero]; try rfl)
                          go_simp
                          refine hK.out _ _ (trivial) (fun hHeld => ?_)
                          clear hK K
                          (try simp only [Act.put, List.setIfInBounds_toArray, List.set_cons_zero, List.set_cons_succ])
                          refine wpAnyH_done (by kernel_rfl) ?_ _
                          refine NoPanic.normal ?_
                          go_wp2_with fail
                          go_roundw
                          case rel => exact ⟨i + 1, by omega, by go_num, HNX.out⟩
                          case measure => simp [intOf]; omega
                    · have hcE : cn x = 10 := by omega
                      obtain ⟨g, rfl, _, _, _, c2, _⟩ := HA1.out.at k (by rw [glen HN.out]; exact hkn2)
                      simp only [List.getElem_map, gv, HKX.out] at c2
                      have HP := Lib.hid (la_put_full HA1.out x HX.out (by omega) ⟨q8, b60⟩)
                      rw [hcE] at c2
                      clear hcE hcr hc10 hc1
                      go_wp2_with fail
                      refine HP.out.mono ?_
                      rintro e w3 ⟨rfl, h3, d3⟩
                      have HNX : Hid (LB w w3 p (i + 1) (.slice (some ⟨g, 0, none⟩) n cp)) := Lib.hid ⟨nb, cn, ps, ag, K, sp, by omega, HSTR.out, HKM.out, fun y hy => by have := HRG.out y hy; omega, HSZ.out, h3.free⟩
                      have hoW : w3.heap[ob]? = some (.cells #[.int .i64 0, .int .i64 T0, .int .i64 U0, .string pq, .string pb] 50 (0, 0)) := by rw [d3 ob (.inl rfl)]; exact HOW.out
                      have hpW : w3.heap[pbk]? = some (.cells #[.string q8, .string b60] 28 (0, 0)) := by rw [d3 pbk (.inr rfl)]; exact HPB.out
                      replace HOW := Lib.hid hoW; replace HPB := Lib.hid hpW
                      clear hoW hpW
                      clear h3 d3 c2 co0 cp0 cp1
                      have co0 := cell_of_heap HOW.out 0
                      simp at co0
                      go_wp2_with fail
                      go_roundw
                      case rel => exact ⟨i + 1, by omega, by go_num, HNX.out⟩
                      case measure => simp [intOf]; omega
                · have hd0 : (kd == 0) = false := by simp [hk0]
                  by_cases hk1 : kd = 1
                  · as_aux_lemma =>
                    subst hk1
                    clear hk0 hd0
                    cases bin
                    · have hxn := HIO.out rfl
                      have hcr := HA1.out.cr x
                      have hc0 : cn x = 0 := by have : ¬ 1 ≤ cn x := fun e => hxn ((HKM.out x).2 e); omega
                      have hp0 : ps x = [] := by have : (ps x).length = 0 := by omega
                                                 exact List.eq_nil_of_length_eq_zero this
                      have HP := Lib.hid (la_took HA1.out x HX.out (by omega) (by omega))
                      have HXN := Lib.hid hxn; have HC0 := Lib.hid hc0; have HP0 := Lib.hid hp0
                      clear hxn hcr hc0 hp0
                      go_wp2_with fail
                      refine HP.out.mono ?_
                      rintro e w3 ⟨rfl, h3, d3⟩
                      have HA3 := Lib.hid h3
                      have hoW : w3.heap[ob]? = some (.cells #[.int .i64 1, .int .i64 T0, .int .i64 U0, .string pq, .string pb] 50 (0, 0)) := by rw [d3 ob (.inl rfl)]; exact HOW.out
                      have hpW : w3.heap[pbk]? = some (.cells #[.string q8, .string b60] 28 (0, 0)) := by rw [d3 pbk (.inr rfl)]; exact HPB.out
                      replace HOW := Lib.hid hoW; replace HPB := Lib.hid hpW
                      clear hoW hpW
                      clear h3 d3 co0
                      have HRK : Hid (w3.ownsRow 0 53 4 (.slice ao n cp) n ((K.map (gv sp cn ag)).flatMap gC)) := Lib.hid (by obtain ⟨ao', cp', e, _, _, h1⟩ := HA3.out.slice (glen HN.out); cases e; exact h1)
                      have hcpb := row_cap HRK.out
                      unfold maxLen at hcpb
                      go_upto_region 33 with fail
                      go_cut [5] from 151 to 162 (fun v wx => ∃ a4 c4, v = .slice a4 (n + 1) c4 ∧ LP (fun k => k = ob ∨ k = pbk) w wx p (nb + 1) cn (cnUp cn x) ps ps ag (agUp ag x) K x k (n + 1) v ∧ Keep NoF w3 wx)
                      case first =>
                        have K0 := Lib.hid ((Keep.refl NoF w3).drew)
                        have SRC1 : Hid (∀ W, Keep NoF w3 W → Src Tryz.prog 4 48 (.slice ao k cp) k (((K.map (gv sp cn ag)).take k).flatMap gC) W) := Lib.hid fun W hW => src_upto gC_len gC_one Tryz.underlying48 (row_keep HRK.out hW (fun _ _ f => f)) (glen HN.out) k (by omega) cp
                        have SRC2 : Hid (∀ W, Keep NoF w3 W → Src Tryz.prog 4 48 (.slice (fromA ao k cp 4) (n - k) (cp - k)) (n - k) (((K.map (gv sp cn ag)).drop k).flatMap gC) W) := Lib.hid fun W hW => src_from gC_len gC_one Tryz.underlying48 (row_keep HRK.out hW (fun _ _ f => f)) (glen HN.out) k (by omega) (cp - k)
                        have HHI := Lib.hid (fun W => run_upto (P := Tryz.prog) Tryz.underlying48 infoG ao n cp k (by omega) W)
                        have HLO := Lib.hid (fun W => run_from (P := Tryz.prog) Tryz.underlying48 infoG ao n cp k (by omega) W)
                        refine wp_region_noPanic ?_
                        refine wp_region_held_drew (S := (fun _ : World => True)) (by kernel_rfl) (trivial) (fun hHeld => ?_)
                        refine wpAnyH_take (i := 0) (oi := ?oP10) (v := ?vP10) ?hiP10 (by kernel_rfl) (by kernel_rfl) (by kernel_rfl) (fun _ _ _ h => h) (Or.inl ⟨?wP10, ?yP10⟩) (by assumption) ?rP10
                        case hiP10 => (simp only [List.getElem?_toArray, List.getElem?_cons_zero]; try rfl)
                        case wP10 => rfl
                        case yP10 => (intro w hSw; (try dsimp only at hSw); go_simp; (try with_reducible rfl))
                        (try simp only [Act.put, List.setIfInBounds_toArray, List.set_cons_zero, List.set_cons_succ])
                        refine wpAnyH_take (i := 1) (oi := ?oP11) (v := ?vP11) ?hiP11 (by kernel_rfl) (by kernel_rfl) (by kernel_rfl) (fun _ _ _ h => h) (Or.inl ⟨?wP11, ?yP11⟩) (by assumption) ?rP11
                        case hiP11 => (simp only [List.getElem?_toArray, List.getElem?_cons_succ, List.getElem?_cons_zero]; try rfl)
                        case wP11 => rfl
                        case yP11 => (intro w hSw; (try dsimp only at hSw); go_simp; (try with_reducible rfl))
                        (try simp only [Act.put, List.setIfInBounds_toArray, List.set_cons_zero, List.set_cons_succ])
                        refine wpAnyH_take (i := 2) (oi := ?oP12) (v := .slice ao k cp) ?hiP12 (by kernel_rfl) (by kernel_rfl) (by kernel_rfl) (fun _ _ _ h => h) (Or.inl ⟨?wP12, ?yP12⟩) (by assumption) ?rP12
                        case hiP12 => (simp only [List.getElem?_toArray, List.getElem?_cons_succ, List.getElem?_cons_zero]; try rfl)
                        case wP12 => rfl
                        case yP12 => (intro w hSw; exact slice_yields rfl (HHI.out w))
                        (try simp only [Act.put, List.setIfInBounds_toArray, List.set_cons_zero, List.set_cons_succ])
                        refine wpAnyH_take (i := 4) (oi := ?oP14) (v := ?vP14) ?hiP14 (by kernel_rfl) (by kernel_rfl) (by kernel_rfl) (fun _ _ _ h => h) (Or.inl ⟨?wP14, ?yP14⟩) (by assumption) ?rP14
                        case hiP14 => (simp only [List.getElem?_toArray, List.getElem?_cons_succ, List.getElem?_cons_zero]; try rfl)
                        case wP14 => rfl
                        case yP14 => (intro w hSw; (try dsimp only at hSw); go_simp; (try with_reducible rfl))
                        (try simp only [Act.put, List.setIfInBounds_toArray, List.set_cons_zero, List.set_cons_succ])
                        refine wpAnyH_take (i := 5) (oi := ?oP15) (v := ?vP15) ?hiP15 (by kernel_rfl) (by kernel_rfl) (by kernel_rfl) (fun _ _ _ h => h) (Or.inl ⟨?wP15, ?yP15⟩) (by assumption) ?rP15
                        case hiP15 => (simp only [List.getElem?_toArray, List.getElem?_cons_succ, List.getElem?_cons_zero]; try rfl)
                        case wP15 => rfl
                        case yP15 => (intro w hSw; (try dsimp only at hSw); go_simp; (try with_reducible rfl))
                        (try simp only [Act.put, List.setIfInBounds_toArray, List.set_cons_zero, List.set_cons_succ])
                        refine wpAnyH_take (i := 8) (oi := ?oP18) (v := ?vP18) ?hiP18 (by kernel_rfl) (by kernel_rfl) (by kernel_rfl) (fun _ _ _ h => h) (Or.inl ⟨?wP18, ?yP18⟩) (by assumption) ?rP18
                        case hiP18 => (simp only [List.getElem?_toArray, List.getElem?_cons_succ, List.getElem?_cons_zero]; try rfl)
                        case wP18 => rfl
                        case yP18 => (intro w hSw; (try dsimp only at hSw); go_simp; (try with_reducible rfl))
                        (try simp only [Act.put, List.setIfInBounds_toArray, List.set_cons_zero, List.set_cons_succ])
                        refine wpAnyH_take (i := 9) (oi := ?oP19) (v := ?vP19) ?hiP19 (by kernel_rfl) (by kernel_rfl) (by kernel_rfl) (fun _ _ _ h => h) (Or.inl ⟨?wP19, ?yP19⟩) (by assumption) ?rP19
                        case hiP19 => (simp only [List.getElem?_toArray, List.getElem?_cons_succ, List.getElem?_cons_zero]; try rfl)
                        case wP19 => rfl
                        case yP19 => (intro w hSw; (try dsimp only at hSw); go_simp; (try with_reducible rfl))
                        (try simp only [Act.put, List.setIfInBounds_toArray, List.set_cons_zero, List.set_cons_succ])
                        refine wpAnyH_take (i := 10) (oi := ?oP110) (v := .slice (fromA ao k cp 4) (n - k) (cp - k)) ?hiP110 (by kernel_rfl) (by kernel_rfl) (by kernel_rfl) (fun _ _ _ h => h) (Or.inl ⟨?wP110, ?yP110⟩) (by assumption) ?rP110
                        case hiP110 => (simp only [List.getElem?_toArray, List.getElem?_cons_succ, List.getElem?_cons_zero]; try rfl)
                        case wP110 => rfl
                        case yP110 => (intro w hSw; exact slice_yields rfl (HLO.out w))
                        (try simp only [Act.put, List.setIfInBounds_toArray, List.set_cons_zero, List.set_cons_succ])
                        refine wpAnyH_ready (rs := [3, 6]) (by kernel_rfl) (by simp) ?_
                        refine (AllReadyH.cons (o := ?oP13) ?hiP13 (fun K hK => ?_) (AllReadyH.cons (o := ?oP16) ?hiP16 (fun K hK => ?_) AllReadyH.nil))
                        case hiP13 => (simp only [List.getElem?_toArray, List.getElem?_cons_succ, List.getElem?_cons_zero]; try rfl)
                        case hiP16 => (simp only [List.getElem?_toArray, List.getElem?_cons_succ, List.getElem?_cons_zero]; try rfl)
                        · refine step_app 48 48 53 (.agg #[.int .i64 0, .slice none 0 0, .int .i64 0, .int .i64 0]) 4 48 Tryz.underlying48 infoG rfl (by decide) (by decide) rfl rfl rfl rfl (v := .slice none 0 0) (sv := (.slice ao k cp)) (World.ownsRow_nil _ _ _ _) (SRC1.out _ (K0.out)) (by omega) ?_
                          intro a1 c1 W1a hown1 hgr1 hfr1
                          simp only [Nat.zero_add, List.nil_append] at hown1 hgr1 hfr1 ⊢
                          have kA : Keep NoF w3 W1a := (K0.out).grown hgr1 (fun k _ e => by cases e)
                          have fr1 : ∀ b, (Value.slice a1 k c1).ownBlock = some b → w3.heap.size ≤ b := fun b hk => by
                            rcases hfr1 with f | f
                            · rw [f] at hk; cases hk
                            · rw [f] at hk; injection hk with hk; exact Nat.le_trans (K0.out).size (Nat.le_of_eq hk)
                          refine hK.out _ _ (trivial) (fun hHeld => ?_)
                          clear hK K
                          (try simp only [Act.put, List.setIfInBounds_toArray, List.set_cons_zero, List.set_cons_succ])
                          refine wpAnyH_ready (rs := [6]) (by kernel_rfl) (by simp) ?_
                          refine (AllReadyH.cons (o := ?oP1a6) ?hiP1a6 (fun K hK => ?_) AllReadyH.nil)
                          case hiP1a6 => (simp only [List.getElem?_toArray, List.getElem?_cons_succ, List.getElem?_cons_zero]; try rfl)
                          go_simp
                          refine hK.out _ _ (trivial) (fun hHeld => ?_)
                          clear hK K
                          (try simp only [Act.put, List.setIfInBounds_toArray, List.set_cons_zero, List.set_cons_succ])
                          have kA2 := kA.alloc (.cells #[.int .i64 x, .slice none 0 0, .int .i64 0, .int .i64 0] 53 (0, 0))
                          refine wpAnyH_ready (rs := [7]) (by kernel_rfl) (by simp) ?_
                          refine (AllReadyH.cons (o := ?oP1a7) ?hiP1a7 (fun K hK => ?_) AllReadyH.nil)
                          case hiP1a7 => (simp only [List.getElem?_toArray, List.getElem?_cons_succ, List.getElem?_cons_zero]; try rfl)
                          refine step_app 48 48 53 (.agg #[.int .i64 0, .slice none 0 0, .int .i64 0, .int .i64 0]) 4 48 Tryz.underlying48 infoG rfl (by decide) (by decide) rfl rfl rfl rfl (v := .slice a1 k c1) (sv := (.slice (some ⟨W1a.heap.size, 0, none⟩) 1 1)) (hown1.alloc _) (src_oneK (x := (GV.mk x (none, 0, 0) 0 0)) gC_one gC_len Tryz.underlying48 (heap_new W1a _) rfl 1) (by omega) ?_
                          intro a3 c3 W3 hown3 hgr3 hfr3
                          have kB : Keep NoF w3 W3 := (kA2).grown hgr3 (fun b hk e => by have := fr1 b e; omega)
                          have fr3 : ∀ b, (Value.slice a3 (k + 1) c3).ownBlock = some b → w3.heap.size ≤ b := fun b hk => by
                            rcases hfr3 with f | f
                            · rw [f] at hk; exact fr1 b hk
                            · rw [f] at hk; injection hk with hk; exact Nat.le_trans (kA2).size (Nat.le_of_eq hk)
                          refine hK.out _ _ (trivial) (fun hHeld => ?_)
                          clear hK K
                          (try simp only [Act.put, List.setIfInBounds_toArray, List.set_cons_zero, List.set_cons_succ])
                          refine wpAnyH_ready (rs := [11]) (by kernel_rfl) (by simp) ?_
                          refine (AllReadyH.cons (o := ?oP1a11) ?hiP1a11 (fun K hK => ?_) AllReadyH.nil)
                          case hiP1a11 => (simp only [List.getElem?_toArray, List.getElem?_cons_succ, List.getElem?_cons_zero]; try rfl)
                          refine step_app 48 48 53 (.agg #[.int .i64 0, .slice none 0 0, .int .i64 0, .int .i64 0]) 4 48 Tryz.underlying48 infoG rfl (by decide) (by decide) rfl rfl rfl rfl (v := .slice a3 (k + 1) c3) (sv := (.slice (fromA ao k cp 4) (n - k) (cp - k))) (hown3) (SRC2.out _ kB) (by omega) ?_
                          intro a4 c4 W4 hown4 hgr4 hfr4
                          have kC : Keep NoF w3 W4 := kB.grown hgr4 (fun b hk e => by have := fr3 b e; omega)
                          have fr4 : ∀ b, (Value.slice a4 (k + 1 + (n - k)) c4).ownBlock = some b → w3.heap.size ≤ b := fun b hk => by
                            rcases hfr4 with f | f
                            · rw [f] at hk; exact fr3 b hk
                            · rw [f] at hk; injection hk with hk; exact Nat.le_trans (kB).size (Nat.le_of_eq hk)
                          refine hK.out _ _ (trivial) (fun hHeld => ?_)
                          clear hK K
                          (try simp only [Act.put, List.setIfInBounds_toArray, List.set_cons_zero, List.set_cons_succ])
                          refine wpAnyH_take (i := 12) (oi := ?oP1a12) (v := ?vP1a12) ?hiP1a12 (by kernel_rfl) (by kernel_rfl) (by kernel_rfl) (fun _ _ _ h => h) (Or.inl ⟨?wP1a12, ?yP1a12⟩) (by assumption) ?rP1a12
                          case hiP1a12 => (simp only [List.getElem?_toArray, List.getElem?_cons_succ, List.getElem?_cons_zero]; try rfl)
                          case wP1a12 => rfl
                          case yP1a12 => (intro w hSw; (try dsimp only at hSw); go_simp; (try with_reducible rfl))
                          (try simp only [Act.put, List.setIfInBounds_toArray, List.set_cons_zero, List.set_cons_succ])
                          refine wpAnyH_done (by kernel_rfl) ?_ _
                          refine NoPanic.normal ?_
                          have e1 : k + 1 + (n - k) = n + 1 := by omega
                          rw [e1] at hown4 fr4 ⊢
                          have hI : ((K.map (gv sp cn ag)).take k).flatMap gC ++ gC ⟨x, (none, 0, 0), 0, 0⟩ ++ ((K.map (gv sp cn ag)).drop k).flatMap gC = ((insAt K k x).map (gv (fun y => if y = x then (none, 0, 0) else sp y) cn (agUp ag x))).flatMap gC := by rw [← ins_gv HXN.out HC0.out, List.flatMap_append, List.flatMap_cons, List.append_assoc]
                          rw [hI] at hown4
                          have hl : (insAt K k x).length = n + 1 := by rw [insAt_length (by rw [HN.out]; exact hkn), HN.out]
                          (try go_wp2_with fail)
                          go_meet
                          exact ⟨a4, c4, rfl, ⟨insAt K k x, _, agUp ag x, ins_rise HSTR.out HTK.out HBL.out HXN.out, fun y => mem_insAt, ⟨by rw [hl]; omega, by unfold insAt; rw [List.getElem_append_right (by rw [List.length_take, HN.out]; omega)]; simp [HN.out, Nat.min_eq_left hkn]⟩, hl, fun y hy => by unfold agUp; rw [if_neg hy], HA3.out.new kC (glen hl) hown4 fr4 (fun y hy => by
                            by_cases e : y = x
                            · right; rw [e]; exact ⟨if_pos rfl, HP0.out⟩
                            · left; exact ⟨(mem_insAt.1 hy).resolve_left e, if_neg e, rfl⟩)⟩, kC⟩
                        · go_simp
                          refine hK.out _ _ (trivial) (fun hHeld => ?_)
                          clear hK K
                          (try simp only [Act.put, List.setIfInBounds_toArray, List.set_cons_zero, List.set_cons_succ])
                          have k1 := K0.out.alloc (.cells #[.int .i64 x, .slice none 0 0, .int .i64 0, .int .i64 0] 53 (0, 0))
                          refine wpAnyH_ready (rs := [3]) (by kernel_rfl) (by simp) ?_
                          refine (AllReadyH.cons (o := ?oP1b3) ?hiP1b3 (fun K hK => ?_) AllReadyH.nil)
                          case hiP1b3 => (simp only [List.getElem?_toArray, List.getElem?_cons_succ, List.getElem?_cons_zero]; try rfl)
                          refine step_app 48 48 53 (.agg #[.int .i64 0, .slice none 0 0, .int .i64 0, .int .i64 0]) 4 48 Tryz.underlying48 infoG rfl (by decide) (by decide) rfl rfl rfl rfl (v := .slice none 0 0) (sv := (.slice ao k cp)) (World.ownsRow_nil _ _ _ _) (SRC1.out _ (k1)) (by omega) ?_
                          intro a1 c1 W1b hown1 hgr1 hfr1
                          simp only [Nat.zero_add, List.nil_append] at hown1 hgr1 hfr1 ⊢
                          have kA : Keep NoF w3 W1b := (k1).grown hgr1 (fun k _ e => by cases e)
                          have fr1 : ∀ b, (Value.slice a1 k c1).ownBlock = some b → w3.heap.size ≤ b := fun b hk => by
                            rcases hfr1 with f | f
                            · rw [f] at hk; cases hk
                            · rw [f] at hk; injection hk with hk; exact Nat.le_trans (k1).size (Nat.le_of_eq hk)
                          have hpb : W1b.heap[w3.heap.size]? = some (.cells #[.int .i64 x, .slice none 0 0, .int .i64 0, .int .i64 0] 53 (0, 0)) := (hgr1.block w3.heap.size (by simp) (by simp [Value.ownBlock])).trans (heap_new w3.drew _)
                          refine hK.out _ _ (trivial) (fun hHeld => ?_)
                          clear hK K
                          (try simp only [Act.put, List.setIfInBounds_toArray, List.set_cons_zero, List.set_cons_succ])
                          refine wpAnyH_ready (rs := [7]) (by kernel_rfl) (by simp) ?_
                          refine (AllReadyH.cons (o := ?oP1b7) ?hiP1b7 (fun K hK => ?_) AllReadyH.nil)
                          case hiP1b7 => (simp only [List.getElem?_toArray, List.getElem?_cons_succ, List.getElem?_cons_zero]; try rfl)
                          refine step_app 48 48 53 (.agg #[.int .i64 0, .slice none 0 0, .int .i64 0, .int .i64 0]) 4 48 Tryz.underlying48 infoG rfl (by decide) (by decide) rfl rfl rfl rfl (v := .slice a1 k c1) (sv := (.slice (some ⟨w3.heap.size, 0, none⟩) 1 1)) (hown1) (src_oneK (x := (GV.mk x (none, 0, 0) 0 0)) gC_one gC_len Tryz.underlying48 (hpb) rfl 1) (by omega) ?_
                          intro a3 c3 W3 hown3 hgr3 hfr3
                          have kB : Keep NoF w3 W3 := (kA).grown hgr3 (fun b hk e => by have := fr1 b e; omega)
                          have fr3 : ∀ b, (Value.slice a3 (k + 1) c3).ownBlock = some b → w3.heap.size ≤ b := fun b hk => by
                            rcases hfr3 with f | f
                            · rw [f] at hk; exact fr1 b hk
                            · rw [f] at hk; injection hk with hk; exact Nat.le_trans (kA).size (Nat.le_of_eq hk)
                          refine hK.out _ _ (trivial) (fun hHeld => ?_)
                          clear hK K
                          (try simp only [Act.put, List.setIfInBounds_toArray, List.set_cons_zero, List.set_cons_succ])
                          refine wpAnyH_ready (rs := [11]) (by kernel_rfl) (by simp) ?_
                          refine (AllReadyH.cons (o := ?oP1b11) ?hiP1b11 (fun K hK => ?_) AllReadyH.nil)
                          case hiP1b11 => (simp only [List.getElem?_toArray, List.getElem?_cons_succ, List.getElem?_cons_zero]; try rfl)
                          refine step_app 48 48 53 (.agg #[.int .i64 0, .slice none 0 0, .int .i64 0, .int .i64 0]) 4 48 Tryz.underlying48 infoG rfl (by decide) (by decide) rfl rfl rfl rfl (v := .slice a3 (k + 1) c3) (sv := (.slice (fromA ao k cp 4) (n - k) (cp - k))) (hown3) (SRC2.out _ kB) (by omega) ?_
                          intro a4 c4 W4 hown4 hgr4 hfr4
                          have kC : Keep NoF w3 W4 := kB.grown hgr4 (fun b hk e => by have := fr3 b e; omega)
                          have fr4 : ∀ b, (Value.slice a4 (k + 1 + (n - k)) c4).ownBlock = some b → w3.heap.size ≤ b := fun b hk => by
                            rcases hfr4 with f | f
                            · rw [f] at hk; exact fr3 b hk
                            · rw [f] at hk; injection hk with hk; exact Nat.le_trans (kB).size (Nat.le_of_eq hk)
                          refine hK.out _ _ (trivial) (fun hHeld => ?_)
                          clear hK K
                          (try simp only [Act.put, List.setIfInBounds_toArray, List.set_cons_zero, List.set_cons_succ])
                          refine wpAnyH_take (i := 12) (oi := ?oP1b12) (v := ?vP1b12) ?hiP1b12 (by kernel_rfl) (by kernel_rfl) (by kernel_rfl) (fun _ _ _ h => h) (Or.inl ⟨?wP1b12, ?yP1b12⟩) (by assumption) ?rP1b12
                          case hiP1b12 => (simp only [List.getElem?_toArray, List.getElem?_cons_succ, List.getElem?_cons_zero]; try rfl)
                          case wP1b12 => rfl
                          case yP1b12 => (intro w hSw; (try dsimp only at hSw); go_simp; (try with_reducible rfl))
                          (try simp only [Act.put, List.setIfInBounds_toArray, List.set_cons_zero, List.set_cons_succ])
                          refine wpAnyH_done (by kernel_rfl) ?_ _
                          refine NoPanic.normal ?_
                          have e1 : k + 1 + (n - k) = n + 1 := by omega
                          rw [e1] at hown4 fr4 ⊢
                          have hI : ((K.map (gv sp cn ag)).take k).flatMap gC ++ gC ⟨x, (none, 0, 0), 0, 0⟩ ++ ((K.map (gv sp cn ag)).drop k).flatMap gC = ((insAt K k x).map (gv (fun y => if y = x then (none, 0, 0) else sp y) cn (agUp ag x))).flatMap gC := by rw [← ins_gv HXN.out HC0.out, List.flatMap_append, List.flatMap_cons, List.append_assoc]
                          rw [hI] at hown4
                          have hl : (insAt K k x).length = n + 1 := by rw [insAt_length (by rw [HN.out]; exact hkn), HN.out]
                          (try go_wp2_with fail)
                          go_meet
                          exact ⟨a4, c4, rfl, ⟨insAt K k x, _, agUp ag x, ins_rise HSTR.out HTK.out HBL.out HXN.out, fun y => mem_insAt, ⟨by rw [hl]; omega, by unfold insAt; rw [List.getElem_append_right (by rw [List.length_take, HN.out]; omega)]; simp [HN.out, Nat.min_eq_left hkn]⟩, hl, fun y hy => by unfold agUp; rw [if_neg hy], HA3.out.new kC (glen hl) hown4 fr4 (fun y hy => by
                            by_cases e : y = x
                            · right; rw [e]; exact ⟨if_pos rfl, HP0.out⟩
                            · left; exact ⟨(mem_insAt.1 hy).resolve_left e, if_neg e, rfl⟩)⟩, kC⟩
                      case rest =>
                        obtain ⟨a4, c4, rfl, hLP, hk4⟩ := hcut
                        obtain ⟨w4, rfl⟩ : ∃ W, W = wc := ⟨_, rfl⟩
                        have HLP := Lib.hid hLP
                        have hoW : w4.heap[ob]? = some (.cells #[.int .i64 1, .int .i64 T0, .int .i64 U0, .string pq, .string pb] 50 (0, 0)) := by rw [hk4.block ob (lt_of_heap HOW.out) (fun f => f)]; exact HOW.out
                        have hpW : w4.heap[pbk]? = some (.cells #[.string q8, .string b60] 28 (0, 0)) := by rw [hk4.block pbk (lt_of_heap HPB.out) (fun f => f)]; exact HPB.out
                        replace HOW := Lib.hid hoW; replace HPB := Lib.hid hpW
                        have hcc : 0 ≤ cn x ∧ cn x < 10 := by have := HC0.out; omega
                        clear hLP hk4 hoW hpW
                        obtain ⟨K4, sp4, ag4, hst4, hkm4, ⟨hk4, hK4x⟩, hn4, hag4, hA4⟩ := HLP.out
                        obtain ⟨g4, e4, -, -, -, c2, -⟩ := hA4.at k (by rw [glen hn4, ← hn4]; exact hk4)
                        cases e4
                        simp only [List.getElem_map, gv, hK4x] at c2
                        obtain ⟨g5, e5, f1, hA5, d5, -⟩ := hA4.store k 2 (by rw [glen hn4, ← hn4]; exact hk4) (by omega) (gv sp4 (cnUp cn x) ag4 x) (.int .i64 (cn x + 1)) (by rw [List.getElem_map, hK4x]; unfold gv gC cnUp; simp)
                        cases e5
                        have eq5 : (K4.map (gv sp4 cn ag4)).set k (gv sp4 (cnUp cn x) ag4 x) = K4.map (gv sp4 (cnUp cn x) ag4) := by
                          have := setMapG (f := gv sp4 cn ag4) (f' := gv sp4 (cnUp cn x) ag4) hst4 hk4 (fun y _ hne => by rw [hK4x] at hne; unfold gv cnUp; rw [if_neg hne])
                          rw [hK4x] at this; exact this
                        rw [eq5] at hA5
                        obtain ⟨g6, e6, f2, hA6, d6, -⟩ := hA5.store k 3 (by rw [glen hn4, ← hn4]; exact hk4) (by omega) (gv sp4 (cnUp cn x) (agUp ag x) x) (.int .i64 0) (by rw [List.getElem_map, hK4x]; unfold gv gC agUp; simp)
                        cases e6
                        have eq6 : (K4.map (gv sp4 (cnUp cn x) ag4)).set k (gv sp4 (cnUp cn x) (agUp ag x) x) = K4.map (gv sp4 (cnUp cn x) (agUp ag x)) := by
                          have := setMapG (f := gv sp4 (cnUp cn x) ag4) (f' := gv sp4 (cnUp cn x) (agUp ag x)) hst4 hk4 (fun y _ hne => by rw [hK4x] at hne; unfold gv; rw [hag4 y hne]; unfold agUp; rw [if_neg hne])
                          rw [hK4x] at this; exact this
                        rw [eq6] at hA6
                        obtain ⟨_, e7, -, -, -, -, c3⟩ := hA5.at k (by rw [glen hn4, ← hn4]; exact hk4)
                        cases e7
                        simp only [List.getElem_map, gv, hK4x] at c3
                        obtain ⟨cx, hcx⟩ : ∃ cx, cn x = cx := ⟨_, rfl⟩
                        rw [hcx] at c2 hA5 d5 f2 hA6 d6 hcc c3
                        generalize ag4 x = a9 at c3
                        have hkN : k < n + 1 := by rw [← hn4]; exact hk4
                        have hkN2 : (k : Int) < ((n + 1 : Nat) : Int) := by omega
                        have hkN3 : decide (n + 1 ≤ k) = false := by simp; omega
                        have hkN4 : (k : Int) < (n : Int) + 1 := by omega
                        have hws : IntKind.i64.wrap (cx + 1) = cx + 1 := IntWalk.i64_in _ (by omega)
                        obtain ⟨w5, hw5⟩ : ∃ W, w4.setCell ⟨g4, k * 4 + 2, none⟩ (.int .i64 (cx + 1)) = W := ⟨_, rfl⟩
                        rw [hw5] at hA5 d5 f2 hA6 d6 c3
                        obtain ⟨w6, hw6⟩ : ∃ W, w5.setCell ⟨g4, k * 4 + 3, none⟩ (.int .i64 0) = W := ⟨_, rfl⟩
                        rw [hw6] at hA6 d6
                        have HA6 := Lib.hid hA6; have HST4 := Lib.hid hst4; have HKM4 := Lib.hid hkm4; have HK4X : Hid (∃ hk : k < K4.length, K4[k] = x) := Lib.hid ⟨hk4, hK4x⟩; have HN4 := Lib.hid hn4; have HCX2 := Lib.hid hcx; have HF2 := Lib.hid f2; have HC3 := Lib.hid c3; have HW5 := Lib.hid hw5; have HW6 := Lib.hid hw6
                        have hoW : w6.heap[ob]? = some (.cells #[.int .i64 1, .int .i64 T0, .int .i64 U0, .string pq, .string pb] 50 (0, 0)) := by rw [d6 ob (.inl rfl), d5 ob (.inl rfl)]; exact HOW.out
                        have hpW : w6.heap[pbk]? = some (.cells #[.string q8, .string b60] 28 (0, 0)) := by rw [d6 pbk (.inr rfl), d5 pbk (.inr rfl)]; exact HPB.out
                        have HO6 := Lib.hid hoW; have HP6 := Lib.hid hpW
                        clear hA4 hA5 hA6 hst4 hkm4 hk4 hK4x hn4 hag4 eq5 eq6 hcx f2 c3 hw5 hw6 d5 d6 hoW hpW HLP
                        go_upto_region 36 with fail
                        (try clear co0)
                        rw [HW5.out]
                        clear c2 f1 hws
                        have f2 := HF2.out; have c3 := HC3.out
                        go_upto_region 37 with fail
                        rw [HW6.out]
                        clear f2 c3
                        have co0 := cell_of_heap HO6.out 0
                        simp at co0
                        have HNX : Hid (LB w w6 p (i + 1) (.slice (some ⟨g4, 0, none⟩) (n + 1) _)) := Lib.hid ⟨nb + 1, cnUp cn x, ps, agUp ag x, K4, sp4, by omega, HST4.out, fun y => by rw [HKM4.out]; unfold cnUp; by_cases e : y = x; (rw [if_pos e, e]; simp; have := HCX2.out; omega); (rw [if_neg e, HKM.out]; simp [e]), fun y hy => by have h1 : 0 ≤ y ∧ y ≤ 4 := (by rcases (HKM4.out y).1 hy with e | e; (rw [e]; exact hxb); (exact ⟨(HRG.out y e).1, (HRG.out y e).2.1⟩)); unfold agUp; by_cases e : y = x; (rw [if_pos e]; omega); (rw [if_neg e]; have := HRG.out y (((HKM4.out y).1 hy).resolve_left e); omega), HSZ.out, HA6.out.free⟩
                        go_wp2_with fail
                        go_roundw
                        case rel => exact ⟨i + 1, by omega, by go_num, HNX.out⟩
                        case measure => simp [intOf]; omega
                    · obtain ⟨hkK, hKx⟩ := HIK.out rfl
                      have hkn2 : k < n := by rw [← HN.out]; exact hkK
                      have hkn3 : (k : Int) < n := by omega
                      have hkn4 : decide (n ≤ k) = false := by simp; omega
                      have hxK : x ∈ K := by rw [← hKx]; exact List.getElem_mem _
                      have HXK := Lib.hid hxK; have HKX := Lib.hid hKx
                      have hc1 := (HKM.out x).1 hxK
                      have hcr := HA1.out.cr x
                      clear hxK hKx
                      by_cases hc10 : cn x < 10
                      · obtain ⟨g, rfl, _, _, _, c2, _⟩ := HA1.out.at k (by rw [glen HN.out]; exact hkn2)
                        simp only [List.getElem_map, gv, HKX.out] at c2
                        have HP := Lib.hid (la_took HA1.out x HX.out (by omega) (by omega))
                        have hd10 : decide (cn x < 10) = true := decide_eq_true hc10
                        obtain ⟨cx, hcx⟩ : ∃ cx, cn x = cx := ⟨_, rfl⟩
                        have HCX := Lib.hid hcx
                        rw [hcx] at c2 hd10 hc10 hc1
                        clear hcr hcx
                        go_wp2_with fail
                        refine HP.out.mono ?_
                        rintro e w3 ⟨rfl, h3, d3⟩
                        have hoW : w3.heap[ob]? = some (.cells #[.int .i64 1, .int .i64 T0, .int .i64 U0, .string pq, .string pb] 50 (0, 0)) := by rw [d3 ob (.inl rfl)]; exact HOW.out
                        have hpW : w3.heap[pbk]? = some (.cells #[.string q8, .string b60] 28 (0, 0)) := by rw [d3 pbk (.inr rfl)]; exact HPB.out
                        replace HOW := Lib.hid hoW; replace HPB := Lib.hid hpW
                        clear hoW hpW
                        have HLP : Hid (LP (fun k => k = ob ∨ k = pbk) w w3 p (nb + 1) cn (cnUp cn x) ps ps ag (agUp ag x) K x k n (.slice (some ⟨g, 0, none⟩) n cp)) := Lib.hid ⟨K, sp, ag, HSTR.out, fun y => ⟨.inr, fun e => e.elim (fun e => by rw [e]; exact HXK.out) id⟩, ⟨by rw [HN.out]; exact hkn2, HKX.out⟩, HN.out, fun _ _ => rfl, h3⟩
                        have hcc : 0 ≤ cn x ∧ cn x < 10 := by have := HCX.out; omega
                        clear h3 d3 c2 hd10 hc10 hc1 co0
                        obtain ⟨K4, sp4, ag4, hst4, hkm4, ⟨hk4, hK4x⟩, hn4, hag4, hA4⟩ := HLP.out
                        obtain ⟨g, e4, -, -, -, c2, -⟩ := hA4.at k (by rw [glen hn4, ← hn4]; exact hk4)
                        cases e4
                        simp only [List.getElem_map, gv, hK4x] at c2
                        obtain ⟨g5, e5, f1, hA5, d5, -⟩ := hA4.store k 2 (by rw [glen hn4, ← hn4]; exact hk4) (by omega) (gv sp4 (cnUp cn x) ag4 x) (.int .i64 (cn x + 1)) (by rw [List.getElem_map, hK4x]; unfold gv gC cnUp; simp)
                        cases e5
                        have eq5 : (K4.map (gv sp4 cn ag4)).set k (gv sp4 (cnUp cn x) ag4 x) = K4.map (gv sp4 (cnUp cn x) ag4) := by
                          have := setMapG (f := gv sp4 cn ag4) (f' := gv sp4 (cnUp cn x) ag4) hst4 hk4 (fun y _ hne => by rw [hK4x] at hne; unfold gv cnUp; rw [if_neg hne])
                          rw [hK4x] at this; exact this
                        rw [eq5] at hA5
                        obtain ⟨g6, e6, f2, hA6, d6, -⟩ := hA5.store k 3 (by rw [glen hn4, ← hn4]; exact hk4) (by omega) (gv sp4 (cnUp cn x) (agUp ag x) x) (.int .i64 0) (by rw [List.getElem_map, hK4x]; unfold gv gC agUp; simp)
                        cases e6
                        have eq6 : (K4.map (gv sp4 (cnUp cn x) ag4)).set k (gv sp4 (cnUp cn x) (agUp ag x) x) = K4.map (gv sp4 (cnUp cn x) (agUp ag x)) := by
                          have := setMapG (f := gv sp4 (cnUp cn x) ag4) (f' := gv sp4 (cnUp cn x) (agUp ag x)) hst4 hk4 (fun y _ hne => by rw [hK4x] at hne; unfold gv; rw [hag4 y hne]; unfold agUp; rw [if_neg hne])
                          rw [hK4x] at this; exact this
                        rw [eq6] at hA6
                        obtain ⟨_, e7, -, -, -, -, c3⟩ := hA5.at k (by rw [glen hn4, ← hn4]; exact hk4)
                        cases e7
                        simp only [List.getElem_map, gv, hK4x] at c3
                        obtain ⟨cx, hcx⟩ : ∃ cx, cn x = cx := ⟨_, rfl⟩
                        rw [hcx] at c2 hA5 d5 f2 hA6 d6 hcc c3
                        generalize ag4 x = a9 at c3
                        have hkN : k < n := by rw [← hn4]; exact hk4
                        have hkN2 : (k : Int) < ((n : Nat) : Int) := by omega
                        have hkN3 : decide (n ≤ k) = false := by simp; omega
                        have hkN4 : (k : Int) < (n : Int) + 1 := by omega
                        have hws : IntKind.i64.wrap (cx + 1) = cx + 1 := IntWalk.i64_in _ (by omega)
                        obtain ⟨w5, hw5⟩ : ∃ W, w3.setCell ⟨g, k * 4 + 2, none⟩ (.int .i64 (cx + 1)) = W := ⟨_, rfl⟩
                        rw [hw5] at hA5 d5 f2 hA6 d6 c3
                        obtain ⟨w6, hw6⟩ : ∃ W, w5.setCell ⟨g, k * 4 + 3, none⟩ (.int .i64 0) = W := ⟨_, rfl⟩
                        rw [hw6] at hA6 d6
                        have HA6 := Lib.hid hA6; have HST4 := Lib.hid hst4; have HKM4 := Lib.hid hkm4; have HK4X : Hid (∃ hk : k < K4.length, K4[k] = x) := Lib.hid ⟨hk4, hK4x⟩; have HN4 := Lib.hid hn4; have HCX2 := Lib.hid hcx; have HF2 := Lib.hid f2; have HC3 := Lib.hid c3; have HW5 := Lib.hid hw5; have HW6 := Lib.hid hw6
                        have hoW : w6.heap[ob]? = some (.cells #[.int .i64 1, .int .i64 T0, .int .i64 U0, .string pq, .string pb] 50 (0, 0)) := by rw [d6 ob (.inl rfl), d5 ob (.inl rfl)]; exact HOW.out
                        have hpW : w6.heap[pbk]? = some (.cells #[.string q8, .string b60] 28 (0, 0)) := by rw [d6 pbk (.inr rfl), d5 pbk (.inr rfl)]; exact HPB.out
                        have HO6 := Lib.hid hoW; have HP6 := Lib.hid hpW
                        clear hA4 hA5 hA6 hst4 hkm4 hk4 hK4x hn4 hag4 eq5 eq6 hcx f2 c3 hw5 hw6 d5 d6 hoW hpW HLP
                        go_upto_region 36 with fail
                        (try clear co0)
                        rw [HW5.out]
                        clear c2 f1 hws
                        have f2 := HF2.out; have c3 := HC3.out
                        go_upto_region 37 with fail
                        rw [HW6.out]
                        clear f2 c3
                        have co0 := cell_of_heap HO6.out 0
                        simp at co0
                        have HNX : Hid (LB w w6 p (i + 1) (.slice (some ⟨g, 0, none⟩) (n) _)) := Lib.hid ⟨nb + 1, cnUp cn x, ps, agUp ag x, K4, sp4, by omega, HST4.out, fun y => by rw [HKM4.out]; unfold cnUp; by_cases e : y = x; (rw [if_pos e, e]; simp; have := HCX2.out; omega); (rw [if_neg e, HKM.out]; simp [e]), fun y hy => by have h1 : 0 ≤ y ∧ y ≤ 4 := (by rcases (HKM4.out y).1 hy with e | e; (rw [e]; exact hxb); (exact ⟨(HRG.out y e).1, (HRG.out y e).2.1⟩)); unfold agUp; by_cases e : y = x; (rw [if_pos e]; omega); (rw [if_neg e]; have := HRG.out y (((HKM4.out y).1 hy).resolve_left e); omega), HSZ.out, HA6.out.free⟩
                        go_wp2_with fail
                        go_roundw
                        case rel => exact ⟨i + 1, by omega, by go_num, HNX.out⟩
                        case measure => simp [intOf]; omega
                      · have hcE : cn x = 10 := by omega
                        obtain ⟨g, rfl, _, _, _, c2, _⟩ := HA1.out.at k (by rw [glen HN.out]; exact hkn2)
                        simp only [List.getElem_map, gv, HKX.out] at c2
                        have HP := Lib.hid (la_took_full HA1.out x HX.out (by omega))
                        rw [hcE] at c2
                        clear hcE hcr hc10 hc1
                        go_wp2_with fail
                        refine HP.out.mono ?_
                        rintro e w3 ⟨rfl, h3, d3⟩
                        have HNX : Hid (LB w w3 p (i + 1) (.slice (some ⟨g, 0, none⟩) n cp)) := Lib.hid ⟨nb, cn, ps, ag, K, sp, by omega, HSTR.out, HKM.out, fun y hy => by have := HRG.out y hy; omega, HSZ.out, h3.free⟩
                        have hoW : w3.heap[ob]? = some (.cells #[.int .i64 1, .int .i64 T0, .int .i64 U0, .string pq, .string pb] 50 (0, 0)) := by rw [d3 ob (.inl rfl)]; exact HOW.out
                        have hpW : w3.heap[pbk]? = some (.cells #[.string q8, .string b60] 28 (0, 0)) := by rw [d3 pbk (.inr rfl)]; exact HPB.out
                        replace HOW := Lib.hid hoW; replace HPB := Lib.hid hpW
                        clear hoW hpW
                        clear h3 d3 c2 co0
                        go_wp2_with fail
                        go_roundw
                        case rel => exact ⟨i + 1, by omega, by go_num, HNX.out⟩
                        case measure => simp [intOf]; omega
                  · have hd1 : (kd == 1) = false := by simp [hk1]
                    by_cases hk2 : kd = 2
                    · as_aux_lemma =>
                      subst hk2
                      clear hk0 hd0 hk1 hd1
                      cases bin
                      · have hxn := HIO.out rfl
                        have hcr := HA1.out.cr x
                        have HT := Lib.hid (la_touch_no HA1.out x HX.out (by have : ¬ 1 ≤ cn x := fun e => hxn ((HKM.out x).2 e); omega))
                        clear hxn hcr
                        go_wp2_with fail
                        refine HT.out.mono ?_
                        rintro e w3 ⟨rfl, h3, _⟩
                        have HNX : Hid (LB w w3 p (i + 1) (.slice ao n cp)) := Lib.hid ⟨nb, cn, ps, ag, K, sp, by omega, HSTR.out, HKM.out, fun y hy => by have := HRG.out y hy; omega, HSZ.out, h3.free⟩
                        clear h3 co0
                        go_wp2_with fail
                        go_roundw
                        case rel => exact ⟨i + 1, by omega, by go_num, HNX.out⟩
                        case measure => simp [intOf]; omega
                      · obtain ⟨hkK, hKx⟩ := HIK.out rfl
                        have hkn2 : k < n := by rw [← HN.out]; exact hkK
                        have hkn3 : (k : Int) < n := by omega
                        have hkn4 : decide (n ≤ k) = false := by simp; omega
                        have hxK : x ∈ K := by rw [← hKx]; exact List.getElem_mem _
                        have HXK := Lib.hid hxK; have HKX := Lib.hid hKx
                        have hc1 := (HKM.out x).1 hxK
                        have hcr := HA1.out.cr x
                        clear hxK hKx
                        have HT := Lib.hid (la_touch HA1.out x HX.out hc1 (by omega))
                        clear hcr hc1
                        go_wp2_with fail
                        refine HT.out.mono ?_
                        rintro e w3 ⟨rfl, h3, _⟩
                        obtain ⟨g, rfl, f1, hr3, _, _⟩ := h3.store k 3 (by rw [glen HN.out]; exact hkn2) (by omega) (gv sp cn (agUp ag x) x) (.int .i64 0) (by rw [List.getElem_map, HKX.out]; unfold gv gC agUp; simp)
                        obtain ⟨_, e7, _, _, _, _, c3⟩ := h3.at k (by rw [glen HN.out]; exact hkn2)
                        cases e7
                        have HNX : Hid (LB w (w3.setCell ⟨g, k * 4 + 3, none⟩ (.int .i64 0)) p (i + 1) (.slice (some ⟨g, 0, none⟩) n cp)) := by
                          have e : (K.map (gv sp cn ag)).set k (gv sp cn (agUp ag x) x) = K.map (gv sp cn (agUp ag x)) := by
                            have := setMapG (f := gv sp cn ag) (f' := gv sp cn (agUp ag x)) HSTR.out hkK (fun y _ hne => by rw [HKX.out] at hne; unfold gv agUp; simp [hne])
                            rw [HKX.out] at this; exact this
                          rw [e] at hr3
                          refine Lib.hid ⟨nb + 1, cn, ps, _, K, sp, by omega, HSTR.out, HKM.out, fun y hy => ?_, HSZ.out, hr3.free⟩
                          have := HRG.out y hy
                          unfold agUp
                          split <;> omega
                        clear h3 hr3 co0
                        go_wp2_with fail
                        go_roundw
                        case rel => exact ⟨i + 1, by omega, by go_num, HNX.out⟩
                        case measure => simp [intOf]; omega
                    · have hd2 : (kd == 2) = false := by simp [hk2]
                      by_cases hk3 : kd = 3
                      · as_aux_lemma =>
                        subst hk3
                        clear hk0 hd0 hk1 hd1 hk2 hd2
                        cases bin
                        · have hxn := HIO.out rfl
                          have hcr := HA1.out.cr x
                          have HT := Lib.hid (la_drop_no HA1.out x HX.out (by have : ¬ 1 ≤ cn x := fun e => hxn ((HKM.out x).2 e); omega))
                          clear hxn hcr
                          go_wp2_with fail
                          refine HT.out.mono ?_
                          rintro e w3 ⟨rfl, h3, _⟩
                          have HNX : Hid (LB w w3 p (i + 1) (.slice ao n cp)) := Lib.hid ⟨nb, cn, ps, ag, K, sp, by omega, HSTR.out, HKM.out, fun y hy => by have := HRG.out y hy; omega, HSZ.out, h3.free⟩
                          clear h3 co0
                          go_wp2_with fail
                          go_roundw
                          case rel => exact ⟨i + 1, by omega, by go_num, HNX.out⟩
                          case measure => simp [intOf]; omega
                        · obtain ⟨hkK, hKx⟩ := HIK.out rfl
                          have hkn2 : k < n := by rw [← HN.out]; exact hkK
                          have hkn3 : (k : Int) < n := by omega
                          have hkn4 : decide (n ≤ k) = false := by simp; omega
                          have hxK : x ∈ K := by rw [← hKx]; exact List.getElem_mem _
                          have HXK := Lib.hid hxK; have HKX := Lib.hid hKx
                          have hc1 := (HKM.out x).1 hxK
                          have hcr := HA1.out.cr x
                          clear hxK hKx
                          have HT := Lib.hid (la_drop HA1.out x HX.out hc1)
                          clear hcr hc1
                          go_wp2_with fail
                          refine HT.out.mono ?_
                          rintro e w6 ⟨rfl, h3, _⟩
                          have HA6 := Lib.hid h3.free
                          clear h3 co0
                          have HRK : Hid (w6.ownsRow 0 53 4 (.slice ao n cp) n ((K.map (gv sp cn ag)).flatMap gC)) := Lib.hid (by obtain ⟨ao', cp', e, _, _, h1⟩ := HA6.out.slice (glen HN.out); cases e; exact h1)
                          have hcpb := row_cap HRK.out
                          unfold maxLen at hcpb
                          go_upto_region 48 with fail
                          have K0 := Lib.hid ((Keep.refl NoF w6).drew)
                          have SRC1 : Hid (∀ W, Keep NoF w6 W → Src Tryz.prog 4 48 (.slice ao k cp) k (((K.map (gv sp cn ag)).take k).flatMap gC) W) := Lib.hid fun W hW => src_upto gC_len gC_one Tryz.underlying48 (row_keep HRK.out hW (fun _ _ f => f)) (glen HN.out) k (by omega) cp
                          have SRC2 : Hid (∀ W, Keep NoF w6 W → Src Tryz.prog 4 48 (.slice (fromA ao (k + 1) cp 4) (n - (k + 1)) (cp - (k + 1))) (n - (k + 1)) (((K.map (gv sp cn ag)).drop (k + 1)).flatMap gC) W) := Lib.hid fun W hW => src_from gC_len gC_one Tryz.underlying48 (row_keep HRK.out hW (fun _ _ f => f)) (glen HN.out) (k + 1) (by omega) (cp - (k + 1))
                          have HHI := Lib.hid (fun W => run_upto (P := Tryz.prog) Tryz.underlying48 infoG ao n cp k (by omega) W)
                          have hlo := fun W => run_from (P := Tryz.prog) Tryz.underlying48 infoG ao n cp (k + 1) (by omega) W
                          rw [show ((k + 1 : Nat) : Int) = (k : Int) + 1 by omega] at hlo
                          have HLO := Lib.hid hlo
                          clear hlo
                          have hsum : IntKind.i64.wrap ((k : Int) + 1) = (k : Int) + 1 := IntWalk.i64_in _ (by omega)
                          refine wp_region_noPanic ?_
                          refine wp_region_held_drew (S := (fun _ : World => True)) (by kernel_rfl) (trivial) (fun hHeld => ?_)
                          refine wpAnyH_take (i := 0) (oi := ?oR0) (v := ?vR0) ?hiR0 (by kernel_rfl) (by kernel_rfl) (by kernel_rfl) (fun _ _ _ h => h) (Or.inl ⟨?wR0, ?yR0⟩) (by assumption) ?rR0
                          case hiR0 => (simp only [List.getElem?_toArray, List.getElem?_cons_zero]; try rfl)
                          case wR0 => rfl
                          case yR0 => (intro w hSw; (try dsimp only at hSw); go_simp; (try with_reducible rfl))
                          (try simp only [Act.put, List.setIfInBounds_toArray, List.set_cons_zero, List.set_cons_succ])
                          refine wpAnyH_take (i := 1) (oi := ?oR1) (v := ?vR1) ?hiR1 (by kernel_rfl) (by kernel_rfl) (by kernel_rfl) (fun _ _ _ h => h) (Or.inl ⟨?wR1, ?yR1⟩) (by assumption) ?rR1
                          case hiR1 => (simp only [List.getElem?_toArray, List.getElem?_cons_succ, List.getElem?_cons_zero]; try rfl)
                          case wR1 => rfl
                          case yR1 => (intro w hSw; (try dsimp only at hSw); go_simp; (try with_reducible rfl))
                          (try simp only [Act.put, List.setIfInBounds_toArray, List.set_cons_zero, List.set_cons_succ])
                          refine wpAnyH_take (i := 2) (oi := ?oR2) (v := .slice ao k cp) ?hiR2 (by kernel_rfl) (by kernel_rfl) (by kernel_rfl) (fun _ _ _ h => h) (Or.inl ⟨?wR2, ?yR2⟩) (by assumption) ?rR2
                          case hiR2 => (simp only [List.getElem?_toArray, List.getElem?_cons_succ, List.getElem?_cons_zero]; try rfl)
                          case wR2 => rfl
                          case yR2 => (intro w hSw; exact slice_yields rfl (HHI.out w))
                          (try simp only [Act.put, List.setIfInBounds_toArray, List.set_cons_zero, List.set_cons_succ])
                          refine wpAnyH_take (i := 4) (oi := ?oR4) (v := ?vR4) ?hiR4 (by kernel_rfl) (by kernel_rfl) (by kernel_rfl) (fun _ _ _ h => h) (Or.inl ⟨?wR4, ?yR4⟩) (by assumption) ?rR4
                          case hiR4 => (simp only [List.getElem?_toArray, List.getElem?_cons_succ, List.getElem?_cons_zero]; try rfl)
                          case wR4 => rfl
                          case yR4 => (intro w hSw; (try dsimp only at hSw); go_simp; (try with_reducible rfl))
                          (try simp only [Act.put, List.setIfInBounds_toArray, List.set_cons_zero, List.set_cons_succ])
                          refine wpAnyH_take (i := 5) (oi := ?oR5) (v := ?vR5) ?hiR5 (by kernel_rfl) (by kernel_rfl) (by kernel_rfl) (fun _ _ _ h => h) (Or.inl ⟨?wR5, ?yR5⟩) (by assumption) ?rR5
                          case hiR5 => (simp only [List.getElem?_toArray, List.getElem?_cons_succ, List.getElem?_cons_zero]; try rfl)
                          case wR5 => rfl
                          case yR5 => (intro w hSw; (try dsimp only at hSw); go_simp; (try with_reducible rfl))
                          (try simp only [Act.put, List.setIfInBounds_toArray, List.set_cons_zero, List.set_cons_succ])
                          refine wpAnyH_take (i := 6) (oi := ?oR6) (v := ?vR6) ?hiR6 (by kernel_rfl) (by kernel_rfl) (by kernel_rfl) (fun _ _ _ h => h) (Or.inl ⟨?wR6, ?yR6⟩) (by assumption) ?rR6
                          case hiR6 => (simp only [List.getElem?_toArray, List.getElem?_cons_succ, List.getElem?_cons_zero]; try rfl)
                          case wR6 => rfl
                          case yR6 => (intro w hSw; (try dsimp only at hSw); go_simp; (try with_reducible rfl))
                          (try simp only [Act.put, List.setIfInBounds_toArray, List.set_cons_zero, List.set_cons_succ])
                          refine wpAnyH_take (i := 7) (oi := ?oR7) (v := .slice (fromA ao (k + 1) cp 4) (n - (k + 1)) (cp - (k + 1))) ?hiR7 (by kernel_rfl) (by kernel_rfl) (by kernel_rfl) (fun _ _ _ h => h) (Or.inl ⟨?wR7, ?yR7⟩) (by assumption) ?rR7
                          case hiR7 => (simp only [List.getElem?_toArray, List.getElem?_cons_succ, List.getElem?_cons_zero]; try rfl)
                          case wR7 => rfl
                          case yR7 => (intro w hSw; exact slice_yields rfl (HLO.out w))
                          (try simp only [Act.put, List.setIfInBounds_toArray, List.set_cons_zero, List.set_cons_succ])
                          refine wpAnyH_ready (rs := [3]) (by kernel_rfl) (by simp) ?_
                          refine (AllReadyH.cons (o := ?oR3) ?hiR3 (fun K hK => ?_) AllReadyH.nil)
                          case hiR3 => (simp only [List.getElem?_toArray, List.getElem?_cons_succ, List.getElem?_cons_zero]; try rfl)
                          refine step_app 48 48 53 (.agg #[.int .i64 0, .slice none 0 0, .int .i64 0, .int .i64 0]) 4 48 Tryz.underlying48 infoG rfl (by decide) (by decide) rfl rfl rfl rfl (v := .slice none 0 0) (sv := (.slice ao k cp)) (World.ownsRow_nil _ _ _ _) (SRC1.out _ (K0.out)) (by omega) ?_
                          intro a1 c1 W1' hown1 hgr1 hfr1
                          simp only [Nat.zero_add, List.nil_append] at hown1 hgr1 hfr1 ⊢
                          have kA : Keep NoF w6 W1' := (K0.out).grown hgr1 (fun k _ e => by cases e)
                          have fr1 : ∀ b, (Value.slice a1 k c1).ownBlock = some b → w6.heap.size ≤ b := fun b hk => by
                            rcases hfr1 with f | f
                            · rw [f] at hk; cases hk
                            · rw [f] at hk; injection hk with hk; exact Nat.le_trans (K0.out).size (Nat.le_of_eq hk)
                          refine hK.out _ _ (trivial) (fun hHeld => ?_)
                          clear hK K
                          (try simp only [Act.put, List.setIfInBounds_toArray, List.set_cons_zero, List.set_cons_succ])
                          refine wpAnyH_ready (rs := [8]) (by kernel_rfl) (by simp) ?_
                          refine (AllReadyH.cons (o := ?oR8) ?hiR8 (fun K hK => ?_) AllReadyH.nil)
                          case hiR8 => (simp only [List.getElem?_toArray, List.getElem?_cons_succ, List.getElem?_cons_zero]; try rfl)
                          refine step_app 48 48 53 (.agg #[.int .i64 0, .slice none 0 0, .int .i64 0, .int .i64 0]) 4 48 Tryz.underlying48 infoG rfl (by decide) (by decide) rfl rfl rfl rfl (v := .slice a1 k c1) (sv := (.slice (fromA ao (k + 1) cp 4) (n - (k + 1)) (cp - (k + 1)))) (hown1) (SRC2.out _ kA) (by omega) ?_
                          intro a3 c3 W3 hown3 hgr3 hfr3
                          have kB : Keep NoF w6 W3 := kA.grown hgr3 (fun b hk e => by have := fr1 b e; omega)
                          have fr3 : ∀ b, (Value.slice a3 (k + (n - (k + 1))) c3).ownBlock = some b → w6.heap.size ≤ b := fun b hk => by
                            rcases hfr3 with f | f
                            · rw [f] at hk; exact fr1 b hk
                            · rw [f] at hk; injection hk with hk; exact Nat.le_trans (kA).size (Nat.le_of_eq hk)
                          refine hK.out _ _ (trivial) (fun hHeld => ?_)
                          clear hK K
                          (try simp only [Act.put, List.setIfInBounds_toArray, List.set_cons_zero, List.set_cons_succ])
                          refine wpAnyH_take (i := 9) (oi := ?oR9) (v := ?vR9) ?hiR9 (by kernel_rfl) (by kernel_rfl) (by kernel_rfl) (fun _ _ _ h => h) (Or.inl ⟨?wR9, ?yR9⟩) (by assumption) ?rR9
                          case hiR9 => (simp only [List.getElem?_toArray, List.getElem?_cons_succ, List.getElem?_cons_zero]; try rfl)
                          case wR9 => rfl
                          case yR9 => (intro w hSw; (try dsimp only at hSw); go_simp; (try with_reducible rfl))
                          (try simp only [Act.put, List.setIfInBounds_toArray, List.set_cons_zero, List.set_cons_succ])
                          refine wpAnyH_done (by kernel_rfl) ?_ _
                          refine NoPanic.normal ?_
                          have e1 : k + (n - (k + 1)) = n - 1 := by omega
                          have e2 : (K.eraseIdx k).length = n - 1 := by rw [List.length_eraseIdx_of_lt (by rw [HN.out]; exact hkn2), HN.out]
                          rw [e1] at hown3 fr3 ⊢
                          have hne : ∀ y ∈ K.eraseIdx k, y ∈ K ∧ y ≠ x := fun y hy => by have h := (mem_cut HSTR.out hkK).1 hy; rw [HKX.out] at h; exact h
                          have e3 : (((K.map (gv sp cn ag)).take k).flatMap gC ++ ((K.map (gv sp cn ag)).drop (k + 1)).flatMap gC) = ((K.eraseIdx k).map (gv sp (cnOff cn x) ag)).flatMap gC := by
                            have h1 : (K.eraseIdx k).map (gv sp (cnOff cn x) ag) = (K.eraseIdx k).map (gv sp cn ag) := List.map_congr_left fun y hy => by unfold gv cnOff; rw [if_neg (hne y hy).2]
                            rw [h1, List.eraseIdx_eq_take_drop_succ, List.map_append, List.flatMap_append, List.map_take, List.map_drop]
                          rw [e3] at hown3
                          have HNX : Hid (LB w W3 p (i + 1) (.slice a3 (n - 1) c3)) := Lib.hid ⟨nb, cnOff cn x, psOff ps x, ag, K.eraseIdx k, sp, by omega, HSTR.out.sublist (List.eraseIdx_sublist _ _), fun y => by rw [mem_cut HSTR.out hkK, HKX.out, HKM.out]; unfold cnOff; by_cases e : y = x; (rw [if_pos e]; simp [e]); (rw [if_neg e]; simp [e]), fun y hy => by have := HRG.out y (hne y hy).1; omega, fun y q hq => by unfold psOff at hq; by_cases e : y = x; (rw [if_pos e] at hq; cases hq); (rw [if_neg e] at hq; exact HSZ.out y q hq),
                            HA6.out.new kB (glen e2) hown3 fr3 (fun y hy => .inl ⟨(hne y hy).1, rfl, by unfold psOff; rw [if_neg (hne y hy).2]⟩)⟩
                          clear hown1 hgr1 hfr1 fr1 hown3 hgr3 hfr3 fr3 kA kB e1 e2 e3 hne
                          go_wp2_with fail
                          go_roundw
                          case rel => exact ⟨i + 1, by omega, by go_num, HNX.out⟩
                          case measure => simp [intOf]; omega
                      · as_aux_lemma =>
                        have hd3 : (kd == 3) = false := by simp [hk3]
                        clear hk0 hk1 hk2 hk3
                        obtain ⟨old, hold⟩ : ∃ old, (fun x => decide (6 ≤ ag x + 1)) = old := ⟨_, rfl⟩
                        have HOLD := Lib.hid hold
                        have HAF : Hid (LA NoF w W1 p nb cn ps ag K sp ps (K.map (gv sp cn ag)) (.slice ao n cp)) := Lib.hid HA1.out.free
                        clear hold
                        go_upto_region 18 with fail
                        clear hd0 hd1 hd2 hd3 co0
                        go_wp2_with fail
                        go_loopw [13, 82] (fun ov jv wr => ∃ (m : Nat), m ≤ n ∧ jv = .int .i64 m ∧ TG w W1 wr p nb cn ps ag K sp old (.slice ao n cp) ov m) (fun _ jv _ => n - (intOf jv).toNat)
                        case atStart => exact ⟨0, Nat.zero_le _, rfl, RowP.nil, by rw [midG_zero]; exact HAF.out.other (Keep.refl NoF W1) (fun _ _ f => f.elim) (fun _ f => by cases f), Nat.le_refl _⟩
                        case round =>
                          obtain ⟨m, hm, rfl, hO, hA, hks⟩ := hrel
                          obtain ⟨M, hM⟩ : ∃ M, ((K.take m).filter old).length = M := ⟨_, rfl⟩
                          have hMl : M ≤ m := by rw [← hM]; exact Nat.le_trans (List.length_filter_le _ _) (List.length_take_le _ _)
                          obtain ⟨oo, oc, rfl, hoc1, hoc2, hro⟩ := hO.slice hM
                          have HO := Lib.hid hO; have HAM := Lib.hid hA; have HKS := Lib.hid hks; have HM := Lib.hid hM
                          clear hO hA hks hM hro
                          by_cases hlt : m < n
                          · have hlt2 : (m : Int) < n := by omega
                            have hlt3 : decide ((m : Int) < n) = true := by simp; omega
                            have hlt4 : decide (n ≤ m) = false := by simp; omega
                            have hmK : m < K.length := by rw [HN.out]; exact hlt
                            obtain ⟨g, rfl, hgl, _, _, _, c3⟩ := HAM.out.at m (by rw [midG_len sp cn ag K m HN.out]; exact hlt)
                            rw [midG_get sp cn ag K m hmK] at c3
                            simp only [gv] at c3
                            have hrg2 := HRG.out _ (List.getElem_mem hmK)
                            obtain ⟨g2, e2, f1, hr3, d3, hk3⟩ := HAM.out.store m 3 (by rw [midG_len sp cn ag K m HN.out]; exact hlt) (by omega) (gv sp cn (fun z => ag z + 1) K[m]) (.int .i64 (ag K[m] + 1)) (by rw [midG_get sp cn ag K m hmK]; unfold gv gC; simp)
                            cases e2
                            rw [midG_set sp cn ag K m hmK] at hr3
                            obtain ⟨g3, e3, _, d0, _, _, d2⟩ := hr3.at m (by rw [midG_len sp cn ag K (m + 1) HN.out]; exact hlt)
                            cases e3
                            rw [midG_get2 sp cn ag K m hmK] at d0 d2
                            simp only [gv] at d0 d2
                            have htk : K.take (m + 1) = K.take m ++ [K[m]] := List.take_succ_eq_append_getElem hmK
                            have hold : old K[m] = decide (6 ≤ ag K[m] + 1) := by rw [← HOLD.out]
                            have hO3 := kd_row HO.out d3 (fun g hg => hg)
                            have hsz3 := hk3.size
                            obtain ⟨y, hy⟩ : ∃ y, K[m] = y := ⟨_, rfl⟩
                            rw [hy] at c3 hrg2 hr3 d0 d2 htk hold hO3 hsz3
                            obtain ⟨a9, ha9⟩ : ∃ a9, ag y = a9 := ⟨_, rfl⟩
                            rw [ha9] at c3 hrg2 hr3 d0 d2 hold hO3 hsz3
                            have HO3 := Lib.hid hO3; have HR3 := Lib.hid hr3; have HTK4 := Lib.hid htk; have HOD := Lib.hid hold; have HD0 := Lib.hid d0; have HD2 := Lib.hid d2; have HZ3 := Lib.hid hsz3
                            have ha1 : 0 ≤ a9 := by omega
                            have ha2 : a9 ≤ 100 := by omega
                            clear hr3 hk3 htk hold hO3 hy ha9 hrg2 d0 d2 hsz3 d3 hgl
                            go_upto_region 22 with fail
                            obtain ⟨w9, hw9⟩ : ∃ W, wr.setCell ⟨g, m * 4 + 3, none⟩ (.int .i64 (a9 + 1)) = W := ⟨_, rfl⟩
                            rw [hw9] at HO3 HR3 HD0 HD2 HZ3 ⊢
                            clear hw9 c3 f1
                            have d0 := HD0.out; have d2 := HD2.out
                            by_cases h6 : 6 ≤ a9 + 1
                            · have h61 : decide (6 ≤ a9 + 1) = true := by simp [h6]
                              have HOY : Hid ((K.take (m + 1)).filter old = (K.take m).filter old ++ [y]) := Lib.hid (by rw [HTK4.out, List.filter_append]; simp [HOD.out, h6])
                              have HRO : Hid (w9.ownsRow 0 2 1 (.slice oo M oc) M (((K.take m).filter old).flatMap iC)) := Lib.hid (by obtain ⟨_, _, e, _, _, h1⟩ := HO3.out.slice HM.out; cases e; exact h1)
                              go_wp2_with (at_builtin; refine wpList_app 45 45 2 (.int .i64 0) 1 8 Tryz.underlying45 infoL rfl (by decide) (by decide) rfl rfl rfl rfl (HRO.out.alloc _) (src_oneK (x := y) iC_one iC_len Tryz.underlying45 (heap_new w9 _) rfl 1) (by omega) ?_)
                              intro a5 c5 w5 hown hgr hfr
                              have hkw : Keep (fun k => (Value.slice oo M oc).ownBlock = some k) w9 w5 := (((Keep.refl NoF w9).alloc _).mono (fun _ _ f => f.elim)).grown hgr (fun k _ e => e)
                              have HNX : Hid (TG w W1 w5 p nb cn ps ag K sp old (.slice (some ⟨g, 0, none⟩) n cp) (.slice a5 (M + 1) c5) (m + 1)) := by
                                have hlo := HO3.out.lo
                                have hs3 : (w9.alloc (.cells #[.int .i64 y] 2 (0, 0))).heap.size = w9.heap.size + 1 := by simp
                                have hk9 : W1.heap.size ≤ w9.heap.size := Nat.le_trans HKS.out HZ3.out
                                have e1 : ((K.take (m + 1)).filter old).length = M + 1 := by rw [HOY.out, List.length_append, HM.out]; rfl
                                have hl5 := row_lt hown
                                refine Lib.hid ⟨⟨a5, c5, by rw [e1], by rw [e1, HOY.out, List.flatMap_append]; exact hown, fun q hq => ?_⟩, HR3.out.other hkw (fun k _ e => e) (fun q hq => ⟨?_, hl5 q hq⟩), Nat.le_trans hk9 hkw.size⟩
                                · rcases hfr with f | f
                                  · rw [f] at hq; exact hlo q hq
                                  · rw [f] at hq; injection hq with hq; omega
                                · rcases hfr with f | f
                                  · rw [f] at hq; exact .inl hq
                                  · rw [f] at hq; injection hq with hq; right; omega
                              clear hown hgr hfr hkw HRO
                              go_wp2_with fail
                              go_roundw
                              case rel => exact ⟨m + 1, by omega, by go_num, HNX.out⟩
                              case measure => simp [intOf]; omega
                            · have h61 : decide (6 ≤ a9 + 1) = false := by simp [h6]
                              have HOY : Hid ((K.take (m + 1)).filter old = (K.take m).filter old) := Lib.hid (by rw [HTK4.out, List.filter_append]; simp [HOD.out, h6])
                              have HNX : Hid (TG w W1 w9 p nb cn ps ag K sp old (.slice (some ⟨g, 0, none⟩) n cp) (.slice oo M oc) (m + 1)) := Lib.hid ⟨by rw [HOY.out]; exact HO3.out, HR3.out, Nat.le_trans HKS.out HZ3.out⟩
                              go_wp2_with fail
                              go_roundw
                              case rel => exact ⟨m + 1, by omega, by go_num, HNX.out⟩
                              case measure => simp [intOf]; omega
                          · have hlt2 : ¬ (m : Int) < n := by omega
                            have hlt3 : decide ((m : Int) < n) = false := by simp; omega
                            obtain rfl : m = n := by omega
                            have hO := HO.out
                            have hA := HAM.out
                            rw [List.take_of_length_le (by rw [HN.out]; exact Nat.le_refl _)] at hO
                            rw [midG_end sp cn ag K HN.out] at hA
                            have HO2 := Lib.hid hO; have HA2 := Lib.hid hA
                            have HT := Lib.hid (la_tick hA HSTR.out HKM.out (by rw [HN.out]; omega))
                            clear hlt hO hA
                            rw [HOLD.out] at HT
                            go_wp2_with fail
                            refine HT.out.mono ?_
                            rintro e w6 ⟨lv, rfl, h4, h5, d5, hs6⟩
                            have HE := Lib.hid (eqL_any wr.heap.size W1.heap.size lv (.slice oo M oc) (K.filter old) w6 h4 (kd_row HO2.out d5 (fun g hg => hg)))
                            have HNX := Lib.hid h5.free
                            clear h4 h5 d5 hs6
                            go_wp2_with fail
                            refine HE.out.mono ?_
                            rintro e w7 ⟨rfl, k7⟩
                            have HNY : Hid (LB w w7 p (i + 1) (.slice ao m cp)) := Lib.hid ⟨nb + K.length, cn, ps, _, K, sp, by rw [HN.out]; omega, HSTR.out, HKM.out, fun y hy => by have := HRG.out y hy; omega, HSZ.out, HNX.out.keepN k7⟩
                            clear k7
                            go_wp2_with fail
                            go_roundw
                            case rel => exact ⟨i + 1, by omega, by go_num, HNY.out⟩
                            case measure => simp [intOf]; omega
    · rw [decide_eq_false hgo]
      clear hgo
      as_aux_lemma =>
      go_upto_region 49 with fail
      obtain ⟨KL, rfl⟩ : ∃ L, L = K := ⟨_, rfl⟩
      obtain ⟨wo, rfl⟩ : ∃ wo : World, wo = wr := ⟨_, rfl⟩
      go_wp2_with fail
      go_loopw [15, 16, 17] (fun tv av jv wr => ∃ (j : Nat), j ≤ n ∧ jv = .int .i64 j ∧ FG w wo wr p nb cn ps ag KL sp (.slice ao n cp) tv av j) (fun _ _ jv _ => n - (intOf jv).toNat)
      case atStart => exact ⟨0, Nat.zero_le _, rfl, RowP.nil, OwnP.nil _, nofun, HA.out.other (Keep.refl NoF wo) (fun _ _ f => f.elim) (fun _ f => by rcases f with f | f <;> cases f), Keep.refl _ _⟩
      case round =>
        obtain ⟨j, hj, rfl, hT, hL, hd, hA9, hk9⟩ := hrel
        have HFG : Hid (FG w wo wr p nb cn ps ag KL sp (.slice ao n cp) _ _ j) := Lib.hid ⟨hT, hL, hd, hA9, hk9⟩
        have HTR := Lib.hid hT; have HLR := Lib.hid hL; have HDR := Lib.hid hd; have HA9 := Lib.hid hA9; have HK9 := Lib.hid hk9
        obtain ⟨N1, hN1⟩ : ∃ N, (KL.take j).length = N := ⟨_, rfl⟩
        have hN1j : N1 = j := by rw [← hN1, List.length_take, HN.out]; omega
        subst hN1j
        obtain ⟨to_, tc, rfl, htc1, htc2, hrt⟩ := hT.slice hN1
        have hpl := fun y => HA.out.cr y
        have hml : ((KL.take N1).flatMap ps).length ≤ 10 * N1 := flat_len10 (fun y => by have := hpl y; omega) _ hN1
        obtain ⟨M, hM⟩ : ∃ M, ((KL.take N1).flatMap ps).length = M := ⟨_, rfl⟩
        rw [hM] at hml
        obtain ⟨ao2, ac, e2, hL2, _⟩ := hL.sl (fun q hq => by obtain ⟨y, _, h⟩ := List.mem_flatMap.1 hq; exact HSZ.out y q h)
        subst e2
        have HLR0 := HLR
        rw [hM] at HLR0 HDR HA9 HFG ⊢
        have HRT := Lib.hid hrt; have HM := Lib.hid hM; have HN1 := Lib.hid hN1
        have HL2 := Lib.hid hL2
        clear hT hL hd hA9 hk9 hrt hM hpl hL2
        by_cases hlt : N1 < n
        · have hlt2 : (N1 : Int) < n := by omega
          have hlt3 : decide ((N1 : Int) < n) = true := by simp; omega
          have hlt4 : decide (n ≤ N1) = false := by simp; omega
          have hjK : N1 < KL.length := by rw [HN.out]; exact hlt
          have htk : KL.take (N1 + 1) = KL.take N1 ++ [KL[N1]] := List.take_succ_eq_append_getElem hjK
          obtain ⟨gr, rfl, _, cr, cu, cn9, _⟩ := HA9.out.at N1 (by rw [glen HN.out]; exact hlt)
          simp only [List.getElem_map, gv] at cr cu cn9
          have hin := List.getElem_mem hjK
          obtain ⟨y, hy⟩ : ∃ y, KL[N1] = y := ⟨_, rfl⟩
          rw [hy] at cr cu cn9 hin htk
          have HIN := Lib.hid hin; have HTK := Lib.hid htk
          have hyk : KI y := ki_small (by have := HRG.out y hin; omega)
          have HYK := Lib.hid hyk
          have hoy := HA9.out.own hin
          have hly : (ps y).length ≤ 10 := by have := HA.out.cr y; omega
          obtain ⟨s9, hs9⟩ : ∃ s, sp y = s := ⟨_, rfl⟩
          rw [hs9] at cu hoy
          obtain ⟨so, sc, e9, hsl9, _⟩ := hoy.sl (HSZ.out y)
          rw [e9] at cu hoy
          have HOY := Lib.hid hoy; have HCU := Lib.hid cu; have HCR := Lib.hid cr; have HS9 := Lib.hid (hs9.trans (by unfold sVal at e9; injection e9 with q1 q2 q3; exact Prod.ext q1 (Prod.ext q2 q3) : s9 = (so, (ps y).length, sc))); have HY := Lib.hid hy; have HSY : Hid (sVal (sp y) = .slice so (ps y).length sc) := Lib.hid (by rw [hs9]; exact e9)
          clear hin htk hy hyk hoy hs9 e9 hsl9 cn9
          go_upto_region 54 with fail
          go_cut [15, 16] from 226 to 240 (fun tv av wx => FG w wo wx p nb cn ps ag KL sp (.slice (some ⟨gr, 0, none⟩) n cp) tv av (N1 + 1))
          case first =>
            have K0 := Lib.hid ((Keep.refl NoF wr).drew)
            have HGT : Hid (¬ (Value.slice to_ N1 tc).ownBlock = some gr) := Lib.hid fun e => HA9.out.apart gr rfl (.inl e)
            have HGA : Hid (¬ (Value.slice ao2 M ac).ownBlock = some gr) := Lib.hid fun e => HA9.out.apart gr rfl (.inr e)
            have HYT : Hid (∀ q, (Value.slice so (ps y).length sc).ownBlock = some q → ¬ (Value.slice to_ N1 tc).ownBlock = some q) := Lib.hid fun q hq e => HA9.out.apartY HIN.out q (by rw [HS9.out]; exact hq) (.inl e)
            have HYA : Hid (∀ q, (Value.slice so (ps y).length sc).ownBlock = some q → ¬ (Value.slice ao2 M ac).ownBlock = some q) := Lib.hid fun q hq e => HA9.out.apartY HIN.out q (by rw [HS9.out]; exact hq) (.inr e)
            have HTA : Hid (∀ q, (Value.slice ao2 M ac).ownBlock = some q → ¬ (Value.slice to_ N1 tc).ownBlock = some q) := Lib.hid fun q hq => (HDR.out q hq).2
            have HTL : Hid (∀ q, (Value.slice to_ N1 tc).ownBlock = some q → q < wr.heap.size) := Lib.hid (row_lt HRT.out)
            have HAL : Hid (∀ q, (Value.slice ao2 M ac).ownBlock = some q → q < wr.heap.size) := Lib.hid (row_lt HLR0.out)
            have K1 : Keep NoF wr (wr.drew.alloc (.cells #[.int .i64 y] 2 (0, 0))) := K0.out.alloc (.cells #[.int .i64 y] 2 (0, 0))
            refine wp_region_noPanic ?_
            refine wp_region_held_drew (S := (fun W' : World => W'.cell? ⟨gr, N1 * 4, none⟩ = some (.int .i64 y) ∧ W'.cell? ⟨gr, N1 * 4 + 1, none⟩ = some (.slice so (ps y).length sc))) (by kernel_rfl) (⟨K0.out.cell' HCR.out (fun f => f), K0.out.cell' HCU.out (fun f => f)⟩) (fun hHeld => ?_)
            refine wpAnyH_take (i := 0) (oi := ?oFB0) (v := ?vFB0) ?hiFB0 (by kernel_rfl) (by kernel_rfl) (by kernel_rfl) (fun _ _ _ h => h) (Or.inl ⟨?wFB0, ?yFB0⟩) (by assumption) ?rFB0
            case hiFB0 => (simp only [List.getElem?_toArray, List.getElem?_cons_zero]; try rfl)
            case wFB0 => rfl
            case yFB0 => (intro w hSw; (try dsimp only at hSw); go_simp; (try with_reducible rfl))
            (try simp only [Act.put, List.setIfInBounds_toArray, List.set_cons_zero, List.set_cons_succ])
            refine wpAnyH_take (i := 1) (oi := ?oFB1) (v := ?vFB1) ?hiFB1 (by kernel_rfl) (by kernel_rfl) (by kernel_rfl) (fun _ _ _ h => h) (Or.inl ⟨?wFB1, ?yFB1⟩) (by assumption) ?rFB1
            case hiFB1 => (simp only [List.getElem?_toArray, List.getElem?_cons_succ, List.getElem?_cons_zero]; try rfl)
            case wFB1 => rfl
            case yFB1 => (intro w hSw; (try dsimp only at hSw); go_simp; (try with_reducible rfl))
            (try simp only [Act.put, List.setIfInBounds_toArray, List.set_cons_zero, List.set_cons_succ])
            refine wpAnyH_take (i := 2) (oi := ?oFB2) (v := ?vFB2) ?hiFB2 (by kernel_rfl) (by kernel_rfl) (by kernel_rfl) (fun _ _ _ h => h) (Or.inl ⟨?wFB2, ?yFB2⟩) (by assumption) ?rFB2
            case hiFB2 => (simp only [List.getElem?_toArray, List.getElem?_cons_succ, List.getElem?_cons_zero]; try rfl)
            case wFB2 => rfl
            case yFB2 => (intro w hSw; (try dsimp only at hSw); go_simp; (try with_reducible rfl))
            (try simp only [Act.put, List.setIfInBounds_toArray, List.set_cons_zero, List.set_cons_succ])
            refine wpAnyH_take (i := 3) (oi := ?oFB3) (v := ?vFB3) ?hiFB3 (by kernel_rfl) (by kernel_rfl) (by kernel_rfl) (fun _ _ _ h => h) (Or.inl ⟨?wFB3, ?yFB3⟩) (by assumption) ?rFB3
            case hiFB3 => (simp only [List.getElem?_toArray, List.getElem?_cons_succ, List.getElem?_cons_zero]; try rfl)
            case wFB3 => rfl
            case yFB3 => (intro w hSw; (try dsimp only at hSw); go_simp; (try with_reducible rfl))
            (try simp only [Act.put, List.setIfInBounds_toArray, List.set_cons_zero, List.set_cons_succ])
            refine wpAnyH_take (i := 4) (oi := ?oFB4) (v := ?vFB4) ?hiFB4 (by kernel_rfl) (by kernel_rfl) (by kernel_rfl) (fun _ _ _ h => h) (Or.inl ⟨?wFB4, ?yFB4⟩) (by assumption) ?rFB4
            case hiFB4 => (simp only [List.getElem?_toArray, List.getElem?_cons_succ, List.getElem?_cons_zero]; try rfl)
            case wFB4 => rfl
            case yFB4 => (intro w hSw; (try dsimp only at hSw); go_simp; (try with_reducible rfl))
            (try simp only [Act.put, List.setIfInBounds_toArray, List.set_cons_zero, List.set_cons_succ])
            refine wpAnyH_take (i := 5) (oi := ?oFB5) (v := ?vFB5) ?hiFB5 (by kernel_rfl) (by kernel_rfl) (by kernel_rfl) (fun _ _ _ h => h) (Or.inl ⟨?wFB5, ?yFB5⟩) (by assumption) ?rFB5
            case hiFB5 => (simp only [List.getElem?_toArray, List.getElem?_cons_succ, List.getElem?_cons_zero]; try rfl)
            case wFB5 => rfl
            case yFB5 => (intro w hSw; (try dsimp only at hSw); go_simp; (try with_reducible rfl))
            (try simp only [Act.put, List.setIfInBounds_toArray, List.set_cons_zero, List.set_cons_succ])
            refine wpAnyH_take (i := 8) (oi := ?oFB8) (v := ?vFB8) ?hiFB8 (by kernel_rfl) (by kernel_rfl) (by kernel_rfl) (fun _ _ _ h => h) (Or.inl ⟨?wFB8, ?yFB8⟩) (by assumption) ?rFB8
            case hiFB8 => (simp only [List.getElem?_toArray, List.getElem?_cons_succ, List.getElem?_cons_zero]; try rfl)
            case wFB8 => rfl
            case yFB8 => (intro w hSw; (try dsimp only at hSw); go_simp; (try with_reducible rfl))
            (try simp only [Act.put, List.setIfInBounds_toArray, List.set_cons_zero, List.set_cons_succ])
            refine wpAnyH_take (i := 9) (oi := ?oFB9) (v := ?vFB9) ?hiFB9 (by kernel_rfl) (by kernel_rfl) (by kernel_rfl) (fun _ _ _ h => h) (Or.inl ⟨?wFB9, ?yFB9⟩) (by assumption) ?rFB9
            case hiFB9 => (simp only [List.getElem?_toArray, List.getElem?_cons_succ, List.getElem?_cons_zero]; try rfl)
            case wFB9 => rfl
            case yFB9 => (intro w hSw; (try dsimp only at hSw); go_simp; (try with_reducible rfl))
            (try simp only [Act.put, List.setIfInBounds_toArray, List.set_cons_zero, List.set_cons_succ])
            refine wpAnyH_take (i := 10) (oi := ?oFB10) (v := ?vFB10) ?hiFB10 (by kernel_rfl) (by kernel_rfl) (by kernel_rfl) (fun _ _ _ h => h) (Or.inl ⟨?wFB10, ?yFB10⟩) (by assumption) ?rFB10
            case hiFB10 => (simp only [List.getElem?_toArray, List.getElem?_cons_succ, List.getElem?_cons_zero]; try rfl)
            case wFB10 => rfl
            case yFB10 => (intro w hSw; (try dsimp only at hSw); go_simp; (try with_reducible rfl))
            (try simp only [Act.put, List.setIfInBounds_toArray, List.set_cons_zero, List.set_cons_succ])
            refine wpAnyH_take (i := 11) (oi := ?oFB11) (v := ?vFB11) ?hiFB11 (by kernel_rfl) (by kernel_rfl) (by kernel_rfl) (fun _ _ _ h => h) (Or.inl ⟨?wFB11, ?yFB11⟩) (by assumption) ?rFB11
            case hiFB11 => (simp only [List.getElem?_toArray, List.getElem?_cons_succ, List.getElem?_cons_zero]; try rfl)
            case wFB11 => rfl
            case yFB11 => (intro w hSw; (try dsimp only at hSw); go_simp; (try with_reducible rfl))
            (try simp only [Act.put, List.setIfInBounds_toArray, List.set_cons_zero, List.set_cons_succ])
            refine wpAnyH_take (i := 12) (oi := ?oFB12) (v := ?vFB12) ?hiFB12 (by kernel_rfl) (by kernel_rfl) (by kernel_rfl) (fun _ _ _ h => h) (Or.inl ⟨?wFB12, ?yFB12⟩) (by assumption) ?rFB12
            case hiFB12 => (simp only [List.getElem?_toArray, List.getElem?_cons_succ, List.getElem?_cons_zero]; try rfl)
            case wFB12 => rfl
            case yFB12 => (intro w hSw; (try dsimp only at hSw); go_simp; (try with_reducible rfl))
            (try simp only [Act.put, List.setIfInBounds_toArray, List.set_cons_zero, List.set_cons_succ])
            refine wpAnyH_take (i := 13) (oi := ?oFB13) (v := ?vFB13) ?hiFB13 (by kernel_rfl) (by kernel_rfl) (by kernel_rfl) (fun _ _ _ h => h) (Or.inl ⟨?wFB13, ?yFB13⟩) (by assumption) ?rFB13
            case hiFB13 => (simp only [List.getElem?_toArray, List.getElem?_cons_succ, List.getElem?_cons_zero]; try rfl)
            case wFB13 => rfl
            case yFB13 => (intro w hSw; (try dsimp only at hSw); go_simp; (try with_reducible rfl))
            (try simp only [Act.put, List.setIfInBounds_toArray, List.set_cons_zero, List.set_cons_succ])
            refine wpAnyH_ready (rs := [6]) (by kernel_rfl) (by simp) ?_
            refine AllReadyH.cons (o := ?oFB6) ?hiFB6 (fun K hK => ?_) AllReadyH.nil
            case hiFB6 => (simp only [List.getElem?_toArray, List.getElem?_cons_succ, List.getElem?_cons_zero]; try rfl)
            go_simp
            refine hK.out _ _ (⟨(K1).cell' HCR.out (fun f => f), (K1).cell' HCU.out (fun f => f)⟩) (fun hHeld => ?_)
            clear hK K
            (try simp only [Act.put, List.setIfInBounds_toArray, List.set_cons_zero, List.set_cons_succ])
            refine wpAnyH_ready (rs := [7]) (by kernel_rfl) (by simp) ?_
            refine AllReadyH.cons (o := ?oFB7) ?hiFB7 (fun K hK => ?_) AllReadyH.nil
            case hiFB7 => (simp only [List.getElem?_toArray, List.getElem?_cons_succ, List.getElem?_cons_zero]; try rfl)
            refine step_app 45 45 2 (.int .i64 0) 1 8 Tryz.underlying45 infoL rfl (by decide) (by decide) rfl rfl rfl rfl (v := .slice to_ N1 tc) (row_keep HRT.out (K1) (fun q hq f => f)) (src_oneK (x := y) iC_one iC_len Tryz.underlying45 (heap_new wr.drew _) rfl 1) (by omega) ?_
            intro a5 c5 W5 hown5 hgr5 hfr5
            replace hfr5 : (Value.slice a5 (N1 + 1) c5).ownBlock = (Value.slice to_ N1 tc).ownBlock ∨ (Value.slice a5 (N1 + 1) c5).ownBlock = some (wr.drew.alloc (.cells #[.int .i64 y] 2 (0, 0))).heap.size := hfr5
            have k5 : Keep (fun k => (Value.slice to_ N1 tc).ownBlock = some k) wr W5 := (K1.mono (fun _ _ f => f.elim)).grown hgr5 (fun k _ e => e)
            refine hK.out _ _ (⟨(k5).cell' HCR.out (fun f => HGT.out f), (k5).cell' HCU.out (fun f => HGT.out f)⟩) (fun hHeld => ?_)
            clear hK K
            (try simp only [Act.put, List.setIfInBounds_toArray, List.set_cons_zero, List.set_cons_succ])
            refine wpAnyH_ready (rs := [14]) (by kernel_rfl) (by simp) ?_
            refine AllReadyH.cons (o := ?oFB14) ?hiFB14 (fun K hK => ?_) AllReadyH.nil
            case hiFB14 => (simp only [List.getElem?_toArray, List.getElem?_cons_succ, List.getElem?_cons_zero]; try rfl)
            refine step_app 29 29 28 (.agg #[.string ByteArray.empty, .string ByteArray.empty]) 2 32 Tryz.underlying29 infoPut rfl (by decide) (by decide) rfl rfl rfl rfl (v := .slice ao2 M ac) (sv := .slice so (ps y).length sc) (by have h9 := OwnP.keep HLR0.out (k5) (fun q hq f => HTA.out q hq f); unfold OwnP at h9; rw [HM.out] at h9; exact h9) (src_upto pC_len pC_one Tryz.underlying29 (OwnP.keep HOY.out (k5) (fun q hq f => HYT.out q hq f)) rfl (ps y).length (Nat.le_refl _) _) (by omega) ?_
            intro a6 c6 W6 hown6 hgr6 hfr6
            rw [List.take_length] at hown6
            have kz : Keep (fun k => (Value.slice to_ N1 tc).ownBlock = some k ∨ (Value.slice ao2 M ac).ownBlock = some k) wr W6 := (k5.mono (fun _ _ e => .inl e)).grown hgr6 (fun k _ e => .inr e)
            have k56 : Keep (fun k => (Value.slice ao2 M ac).ownBlock = some k) W5 W6 := (Keep.refl _ W5).grown hgr6 (fun k _ e => e)
            have k5s := K1.size
            have k5t := k5.size
            have hn5 : (KL.take N1).length + 1 = N1 + 1 := by rw [HN1.out]
            have hn6 : ((KL.take N1).flatMap ps).length + (ps y).length = M + (ps y).length := by rw [HM.out]
            have hf1 : ∀ g, (Value.slice a5 (N1 + 1) c5).ownBlock = some g → (Value.slice to_ N1 tc).ownBlock = some g ∨ wr.heap.size ≤ g := fun g hg => by
              rcases hfr5 with f | f
              · left; rw [← f]; exact hg
              · rw [f] at hg; injection hg with hg; right; have := K1.size; omega
            have hf2 : ∀ g, (Value.slice a6 (M + (ps y).length) c6).ownBlock = some g → (Value.slice ao2 M ac).ownBlock = some g ∨ wr.heap.size ≤ g := fun g hg => by
              rcases hfr6 with f | f
              · left; rw [← f]; exact hg
              · rw [f] at hg; injection hg with hg; right; have := k5.size; omega
            have hne : ∀ g, (Value.slice a6 (M + (ps y).length) c6).ownBlock = some g → (Value.slice a5 (N1 + 1) c5).ownBlock ≠ some g := fun g hg e => by
              rcases hfr6 with f6 | f6
              · rw [f6] at hg
                rcases hfr5 with f5 | f5
                · rw [f5] at e; exact HTA.out g hg e
                · rw [f5] at e; injection e with e; have := HAL.out g hg; have := k5s; omega
              · rw [f6] at hg; injection hg with hg; have := row_lt hown5 g e; omega
            have HNX : Hid (FG w wo W6 p nb cn ps ag KL sp (.slice (some ⟨gr, 0, none⟩) n cp) (.slice a5 (N1 + 1) c5) (.slice a6 (M + (ps y).length) c6) (N1 + 1)) := Lib.hid (fg_next HFG.out kz HTK.out hn5 (row_keep hown5 k56 (fun q hq e => by rcases hfr5 with f | f; (rw [f] at hq; exact HTA.out q e hq); (rw [f] at hq; injection hq with hq; have := HAL.out q e; omega))) hn6 (hown6) hf1 hf2 hne)
            refine hK.out _ _ (⟨(kz).cell' HCR.out (fun f => f.elim HGT.out HGA.out), (kz).cell' HCU.out (fun f => f.elim HGT.out HGA.out)⟩) (fun hHeld => ?_)
            clear hK K
            (try simp only [Act.put, List.setIfInBounds_toArray, List.set_cons_zero, List.set_cons_succ])
            refine wpAnyH_take (i := 15) (oi := ?oFB15) (v := ?vFB15) ?hiFB15 (by kernel_rfl) (by kernel_rfl) (by kernel_rfl) (fun _ _ _ h => h) (Or.inl ⟨?wFB15, ?yFB15⟩) (by assumption) ?rFB15
            case hiFB15 => (simp only [List.getElem?_toArray, List.getElem?_cons_succ, List.getElem?_cons_zero]; try rfl)
            case wFB15 => rfl
            case yFB15 => (intro w hSw; (try dsimp only at hSw); go_simp; (try with_reducible rfl))
            (try simp only [Act.put, List.setIfInBounds_toArray, List.set_cons_zero, List.set_cons_succ])
            refine wpAnyH_take (i := 16) (oi := ?oFB16) (v := ?vFB16) ?hiFB16 (by kernel_rfl) (by kernel_rfl) (by kernel_rfl) (fun _ _ _ h => h) (Or.inl ⟨?wFB16, ?yFB16⟩) (by assumption) ?rFB16
            case hiFB16 => (simp only [List.getElem?_toArray, List.getElem?_cons_succ, List.getElem?_cons_zero]; try rfl)
            case wFB16 => rfl
            case yFB16 => (intro w hSw; (try dsimp only at hSw); go_simp; (try with_reducible rfl))
            (try simp only [Act.put, List.setIfInBounds_toArray, List.set_cons_zero, List.set_cons_succ])
            refine wpAnyH_done (by kernel_rfl) ?_ _
            refine NoPanic.normal ?_
            (try go_wp2_with fail)
            go_meet
            exact HNX.out
          case rest =>
            have HF5 := Lib.hid hcut
            clear hcut
            obtain ⟨w5, rfl⟩ : ∃ W, W = wc := ⟨_, rfl⟩
            obtain ⟨_, e7, _, dr, du, dn, _⟩ := HF5.out.2.2.2.1.at N1 (by rw [glen HN.out]; exact hlt)
            cases e7
            simp only [List.getElem_map, gv, HY.out, HSY.out] at dr du dn
            have hoy5 := HF5.out.2.2.2.1.own HIN.out
            rw [HSY.out] at hoy5
            obtain ⟨_, _, e9, hsl5, _⟩ := hoy5.sl (HSZ.out y)
            cases e9
            have HSL5 := Lib.hid hsl5
            have HNC := Lib.hid (fun W (hW : Keep NoF w5 W) => la_N (HF5.out.2.2.2.1.keepN hW) y HYK.out)
            have HPC := Lib.hid (fun W (hW : Keep NoF w5 W) => la_puts (HF5.out.2.2.2.1.keepN hW) y HYK.out)
            generalize cn y = cy at dn HNC
            have HDR5 := Lib.hid dr; have HDU5 := Lib.hid du; have HDN5 := Lib.hid dn
            have K5 := Lib.hid ((Keep.refl NoF w5).drew)
            clear hoy5 hsl5 dr du dn
            go_upto_region 55 with fail
            refine wp_region_noPanic ?_
            refine wp_region_held_drew (S := (fun W' : World => W'.cell? ⟨gr, N1 * 4, none⟩ = some (.int .i64 y) ∧ W'.cell? ⟨gr, N1 * 4 + 1, none⟩ = some (.slice so (ps y).length sc) ∧ W'.cell? ⟨gr, N1 * 4 + 2, none⟩ = some (.int .i64 cy))) (by kernel_rfl) (⟨(K5.out).cell' HDR5.out (fun f => f), (K5.out).cell' HDU5.out (fun f => f), (K5.out).cell' HDN5.out (fun f => f)⟩) (fun hHeld => ?_)
            refine wpAnyH_take (i := 0) (oi := ?oGB0) (v := ?vGB0) ?hiGB0 (by kernel_rfl) (by kernel_rfl) (by kernel_rfl) (fun _ _ _ h => h) (Or.inl ⟨?wGB0, ?yGB0⟩) (by assumption) ?rGB0
            case hiGB0 => (simp only [List.getElem?_toArray, List.getElem?_cons_zero]; try rfl)
            case wGB0 => rfl
            case yGB0 => (intro w hSw; (try dsimp only at hSw); go_simp; (try with_reducible rfl))
            (try simp only [Act.put, List.setIfInBounds_toArray, List.set_cons_zero, List.set_cons_succ])
            refine wpAnyH_take (i := 1) (oi := ?oGB1) (v := ?vGB1) ?hiGB1 (by kernel_rfl) (by kernel_rfl) (by kernel_rfl) (fun _ _ _ h => h) (Or.inl ⟨?wGB1, ?yGB1⟩) (by assumption) ?rGB1
            case hiGB1 => (simp only [List.getElem?_toArray, List.getElem?_cons_succ, List.getElem?_cons_zero]; try rfl)
            case wGB1 => rfl
            case yGB1 => (intro w hSw; (try dsimp only at hSw); go_simp; (try with_reducible rfl))
            (try simp only [Act.put, List.setIfInBounds_toArray, List.set_cons_zero, List.set_cons_succ])
            refine wpAnyH_take (i := 2) (oi := ?oGB2) (v := ?vGB2) ?hiGB2 (by kernel_rfl) (by kernel_rfl) (by kernel_rfl) (fun _ _ _ h => h) (Or.inl ⟨?wGB2, ?yGB2⟩) (by assumption) ?rGB2
            case hiGB2 => (simp only [List.getElem?_toArray, List.getElem?_cons_succ, List.getElem?_cons_zero]; try rfl)
            case wGB2 => rfl
            case yGB2 => (intro w hSw; (try dsimp only at hSw); go_simp; (try with_reducible rfl))
            (try simp only [Act.put, List.setIfInBounds_toArray, List.set_cons_zero, List.set_cons_succ])
            refine wpAnyH_take (i := 3) (oi := ?oGB3) (v := ?vGB3) ?hiGB3 (by kernel_rfl) (by kernel_rfl) (by kernel_rfl) (fun _ _ _ h => h) (Or.inl ⟨?wGB3, ?yGB3⟩) (by assumption) ?rGB3
            case hiGB3 => (simp only [List.getElem?_toArray, List.getElem?_cons_succ, List.getElem?_cons_zero]; try rfl)
            case wGB3 => rfl
            case yGB3 => (intro w hSw; (try dsimp only at hSw); go_simp; (try with_reducible rfl))
            (try simp only [Act.put, List.setIfInBounds_toArray, List.set_cons_zero, List.set_cons_succ])
            refine wpAnyH_take (i := 4) (oi := ?oGB4) (v := ?vGB4) ?hiGB4 (by kernel_rfl) (by kernel_rfl) (by kernel_rfl) (fun _ _ _ h => h) (Or.inl ⟨?wGB4, ?yGB4⟩) (by assumption) ?rGB4
            case hiGB4 => (simp only [List.getElem?_toArray, List.getElem?_cons_succ, List.getElem?_cons_zero]; try rfl)
            case wGB4 => rfl
            case yGB4 => (intro w hSw; (try dsimp only at hSw); go_simp; (try with_reducible rfl))
            (try simp only [Act.put, List.setIfInBounds_toArray, List.set_cons_zero, List.set_cons_succ])
            refine wpAnyH_take (i := 5) (oi := ?oGB5) (v := ?vGB5) ?hiGB5 (by kernel_rfl) (by kernel_rfl) (by kernel_rfl) (fun _ _ _ h => h) (Or.inl ⟨?wGB5, ?yGB5⟩) (by assumption) ?rGB5
            case hiGB5 => (simp only [List.getElem?_toArray, List.getElem?_cons_succ, List.getElem?_cons_zero]; try rfl)
            case wGB5 => rfl
            case yGB5 => (intro w hSw; (try dsimp only at hSw); go_simp; (try with_reducible rfl))
            (try simp only [Act.put, List.setIfInBounds_toArray, List.set_cons_zero, List.set_cons_succ])
            refine wpAnyH_take (i := 7) (oi := ?oGB7) (v := ?vGB7) ?hiGB7 (by kernel_rfl) (by kernel_rfl) (by kernel_rfl) (fun _ _ _ h => h) (Or.inl ⟨?wGB7, ?yGB7⟩) (by assumption) ?rGB7
            case hiGB7 => (simp only [List.getElem?_toArray, List.getElem?_cons_succ, List.getElem?_cons_zero]; try rfl)
            case wGB7 => rfl
            case yGB7 => (intro w hSw; (try dsimp only at hSw); go_simp; (try with_reducible rfl))
            (try simp only [Act.put, List.setIfInBounds_toArray, List.set_cons_zero, List.set_cons_succ])
            refine wpAnyH_take (i := 8) (oi := ?oGB8) (v := ?vGB8) ?hiGB8 (by kernel_rfl) (by kernel_rfl) (by kernel_rfl) (fun _ _ _ h => h) (Or.inl ⟨?wGB8, ?yGB8⟩) (by assumption) ?rGB8
            case hiGB8 => (simp only [List.getElem?_toArray, List.getElem?_cons_succ, List.getElem?_cons_zero]; try rfl)
            case wGB8 => rfl
            case yGB8 => (intro w hSw; (try dsimp only at hSw); go_simp; (try with_reducible rfl))
            (try simp only [Act.put, List.setIfInBounds_toArray, List.set_cons_zero, List.set_cons_succ])
            refine wpAnyH_take (i := 9) (oi := ?oGB9) (v := ?vGB9) ?hiGB9 (by kernel_rfl) (by kernel_rfl) (by kernel_rfl) (fun _ _ _ h => h) (Or.inl ⟨?wGB9, ?yGB9⟩) (by assumption) ?rGB9
            case hiGB9 => (simp only [List.getElem?_toArray, List.getElem?_cons_succ, List.getElem?_cons_zero]; try rfl)
            case wGB9 => rfl
            case yGB9 => (intro w hSw; (try dsimp only at hSw); go_simp; (try with_reducible rfl))
            (try simp only [Act.put, List.setIfInBounds_toArray, List.set_cons_zero, List.set_cons_succ])
            refine wpAnyH_take (i := 10) (oi := ?oGB10) (v := ?vGB10) ?hiGB10 (by kernel_rfl) (by kernel_rfl) (by kernel_rfl) (fun _ _ _ h => h) (Or.inl ⟨?wGB10, ?yGB10⟩) (by assumption) ?rGB10
            case hiGB10 => (simp only [List.getElem?_toArray, List.getElem?_cons_succ, List.getElem?_cons_zero]; try rfl)
            case wGB10 => rfl
            case yGB10 => (intro w hSw; (try dsimp only at hSw); go_simp; (try with_reducible rfl))
            (try simp only [Act.put, List.setIfInBounds_toArray, List.set_cons_zero, List.set_cons_succ])
            refine wpAnyH_take (i := 11) (oi := ?oGB11) (v := ?vGB11) ?hiGB11 (by kernel_rfl) (by kernel_rfl) (by kernel_rfl) (fun _ _ _ h => h) (Or.inl ⟨?wGB11, ?yGB11⟩) (by assumption) ?rGB11
            case hiGB11 => (simp only [List.getElem?_toArray, List.getElem?_cons_succ, List.getElem?_cons_zero]; try rfl)
            case wGB11 => rfl
            case yGB11 => (intro w hSw; (try dsimp only at hSw); go_simp; (try with_reducible rfl))
            (try simp only [Act.put, List.setIfInBounds_toArray, List.set_cons_zero, List.set_cons_succ])
            refine wpAnyH_ready (rs := [6]) (by kernel_rfl) (by simp) ?_
            refine AllReadyH.cons (o := ?oGB6) ?hiGB6 (fun K hK => ?_) AllReadyH.nil
            case hiGB6 => (simp only [List.getElem?_toArray, List.getElem?_cons_succ, List.getElem?_cons_zero]; try rfl)
            go_simp
            refine (HNC.out _ K5.out).mono ?_; rintro e w' ⟨rfl, rfl⟩
            go_wp2_with fail
            refine hK.out _ _ (⟨(K5.out).cell' HDR5.out (fun f => f), (K5.out).cell' HDU5.out (fun f => f), (K5.out).cell' HDN5.out (fun f => f)⟩) (fun hHeld => ?_)
            clear hK K
            (try simp only [Act.put, List.setIfInBounds_toArray, List.set_cons_zero, List.set_cons_succ])
            refine wpAnyH_take (i := 12) (oi := ?oGB12) (v := ?vGB12) ?hiGB12 (by kernel_rfl) (by kernel_rfl) (by kernel_rfl) (fun _ _ _ h => h) (Or.inl ⟨?wGB12, ?yGB12⟩) (by assumption) ?rGB12
            case hiGB12 => (simp only [List.getElem?_toArray, List.getElem?_cons_succ, List.getElem?_cons_zero]; try rfl)
            case wGB12 => rfl
            case yGB12 => (intro w hSw; (try dsimp only at hSw); go_simp; (try with_reducible rfl))
            (try simp only [Act.put, List.setIfInBounds_toArray, List.set_cons_zero, List.set_cons_succ])
            refine wpAnyH_take (i := 13) (oi := ?oGB13) (v := ?vGB13) ?hiGB13 (by kernel_rfl) (by kernel_rfl) (by kernel_rfl) (fun _ _ _ h => h) (Or.inl ⟨?wGB13, ?yGB13⟩) (by assumption) ?rGB13
            case hiGB13 => (simp only [List.getElem?_toArray, List.getElem?_cons_succ, List.getElem?_cons_zero]; try rfl)
            case wGB13 => rfl
            case yGB13 => (intro w hSw; (try dsimp only at hSw); go_simp; (try with_reducible rfl))
            (try simp only [Act.put, List.setIfInBounds_toArray, List.set_cons_zero, List.set_cons_succ])
            refine wpAnyH_take (i := 14) (oi := ?oGB14) (v := ?vGB14) ?hiGB14 (by kernel_rfl) (by kernel_rfl) (by kernel_rfl) (fun _ _ _ h => h) (Or.inl ⟨?wGB14, ?yGB14⟩) (by assumption) ?rGB14
            case hiGB14 => (simp only [List.getElem?_toArray, List.getElem?_cons_succ, List.getElem?_cons_zero]; try rfl)
            case wGB14 => rfl
            case yGB14 => (intro w hSw; (try dsimp only at hSw); go_simp; (try with_reducible rfl))
            (try simp only [Act.put, List.setIfInBounds_toArray, List.set_cons_zero, List.set_cons_succ])
            refine wpAnyH_take (i := 15) (oi := ?oGB15) (v := ?vGB15) ?hiGB15 (by kernel_rfl) (by kernel_rfl) (by kernel_rfl) (fun _ _ _ h => h) (Or.inl ⟨?wGB15, ?yGB15⟩) (by assumption) ?rGB15
            case hiGB15 => (simp only [List.getElem?_toArray, List.getElem?_cons_succ, List.getElem?_cons_zero]; try rfl)
            case wGB15 => rfl
            case yGB15 => (intro w hSw; (try dsimp only at hSw); go_simp; (try with_reducible rfl))
            (try simp only [Act.put, List.setIfInBounds_toArray, List.set_cons_zero, List.set_cons_succ])
            refine wpAnyH_take (i := 16) (oi := ?oGB16) (v := ?vGB16) ?hiGB16 (by kernel_rfl) (by kernel_rfl) (by kernel_rfl) (fun _ _ _ h => h) (Or.inl ⟨?wGB16, ?yGB16⟩) (by assumption) ?rGB16
            case hiGB16 => (simp only [List.getElem?_toArray, List.getElem?_cons_succ, List.getElem?_cons_zero]; try rfl)
            case wGB16 => rfl
            case yGB16 => (intro w hSw; (try dsimp only at hSw); go_simp; (try with_reducible rfl))
            (try simp only [Act.put, List.setIfInBounds_toArray, List.set_cons_zero, List.set_cons_succ])
            refine wpAnyH_take (i := 17) (oi := ?oGB17) (v := ?vGB17) ?hiGB17 (by kernel_rfl) (by kernel_rfl) (by kernel_rfl) (fun _ _ _ h => h) (Or.inl ⟨?wGB17, ?yGB17⟩) (by assumption) ?rGB17
            case hiGB17 => (simp only [List.getElem?_toArray, List.getElem?_cons_succ, List.getElem?_cons_zero]; try rfl)
            case wGB17 => rfl
            case yGB17 => (intro w hSw; (try dsimp only at hSw); go_simp; (try with_reducible rfl))
            (try simp only [Act.put, List.setIfInBounds_toArray, List.set_cons_zero, List.set_cons_succ])
            refine wpAnyH_take (i := 18) (oi := ?oGB18) (v := ?vGB18) ?hiGB18 (by kernel_rfl) (by kernel_rfl) (by kernel_rfl) (fun _ _ _ h => h) (Or.inl ⟨?wGB18, ?yGB18⟩) (by assumption) ?rGB18
            case hiGB18 => (simp only [List.getElem?_toArray, List.getElem?_cons_succ, List.getElem?_cons_zero]; try rfl)
            case wGB18 => rfl
            case yGB18 => (intro w hSw; (try dsimp only at hSw); go_simp; (try with_reducible rfl))
            (try simp only [Act.put, List.setIfInBounds_toArray, List.set_cons_zero, List.set_cons_succ])
            refine wpAnyH_take (i := 19) (oi := ?oGB19) (v := ?vGB19) ?hiGB19 (by kernel_rfl) (by kernel_rfl) (by kernel_rfl) (fun _ _ _ h => h) (Or.inl ⟨?wGB19, ?yGB19⟩) (by assumption) ?rGB19
            case hiGB19 => (simp only [List.getElem?_toArray, List.getElem?_cons_succ, List.getElem?_cons_zero]; try rfl)
            case wGB19 => rfl
            case yGB19 => (intro w hSw; (try dsimp only at hSw); go_simp; (try with_reducible rfl))
            (try simp only [Act.put, List.setIfInBounds_toArray, List.set_cons_zero, List.set_cons_succ])
            refine wpAnyH_take (i := 21) (oi := ?oGB21) (v := ?vGB21) ?hiGB21 (by kernel_rfl) (by kernel_rfl) (by kernel_rfl) (fun _ _ _ h => h) (Or.inl ⟨?wGB21, ?yGB21⟩) (by assumption) ?rGB21
            case hiGB21 => (simp only [List.getElem?_toArray, List.getElem?_cons_succ, List.getElem?_cons_zero]; try rfl)
            case wGB21 => rfl
            case yGB21 => (intro w hSw; (try dsimp only at hSw); go_simp; (try with_reducible rfl))
            (try simp only [Act.put, List.setIfInBounds_toArray, List.set_cons_zero, List.set_cons_succ])
            refine wpAnyH_take (i := 22) (oi := ?oGB22) (v := ?vGB22) ?hiGB22 (by kernel_rfl) (by kernel_rfl) (by kernel_rfl) (fun _ _ _ h => h) (Or.inl ⟨?wGB22, ?yGB22⟩) (by assumption) ?rGB22
            case hiGB22 => (simp only [List.getElem?_toArray, List.getElem?_cons_succ, List.getElem?_cons_zero]; try rfl)
            case wGB22 => rfl
            case yGB22 => (intro w hSw; (try dsimp only at hSw); go_simp; (try with_reducible rfl))
            (try simp only [Act.put, List.setIfInBounds_toArray, List.set_cons_zero, List.set_cons_succ])
            refine wpAnyH_take (i := 23) (oi := ?oGB23) (v := ?vGB23) ?hiGB23 (by kernel_rfl) (by kernel_rfl) (by kernel_rfl) (fun _ _ _ h => h) (Or.inl ⟨?wGB23, ?yGB23⟩) (by assumption) ?rGB23
            case hiGB23 => (simp only [List.getElem?_toArray, List.getElem?_cons_succ, List.getElem?_cons_zero]; try rfl)
            case wGB23 => rfl
            case yGB23 => (intro w hSw; (try dsimp only at hSw); go_simp; (try with_reducible rfl))
            (try simp only [Act.put, List.setIfInBounds_toArray, List.set_cons_zero, List.set_cons_succ])
            refine wpAnyH_take (i := 24) (oi := ?oGB24) (v := ?vGB24) ?hiGB24 (by kernel_rfl) (by kernel_rfl) (by kernel_rfl) (fun _ _ _ h => h) (Or.inl ⟨?wGB24, ?yGB24⟩) (by assumption) ?rGB24
            case hiGB24 => (simp only [List.getElem?_toArray, List.getElem?_cons_succ, List.getElem?_cons_zero]; try rfl)
            case wGB24 => rfl
            case yGB24 => (intro w hSw; (try dsimp only at hSw); go_simp; (try with_reducible rfl))
            (try simp only [Act.put, List.setIfInBounds_toArray, List.set_cons_zero, List.set_cons_succ])
            refine wpAnyH_take (i := 25) (oi := ?oGB25) (v := ?vGB25) ?hiGB25 (by kernel_rfl) (by kernel_rfl) (by kernel_rfl) (fun _ _ _ h => h) (Or.inl ⟨?wGB25, ?yGB25⟩) (by assumption) ?rGB25
            case hiGB25 => (simp only [List.getElem?_toArray, List.getElem?_cons_succ, List.getElem?_cons_zero]; try rfl)
            case wGB25 => rfl
            case yGB25 => (intro w hSw; (try dsimp only at hSw); go_simp; (try with_reducible rfl))
            (try simp only [Act.put, List.setIfInBounds_toArray, List.set_cons_zero, List.set_cons_succ])
            refine wpAnyH_ready (rs := [20]) (by kernel_rfl) (by simp) ?_
            refine AllReadyH.cons (o := ?oGB20) ?hiGB20 (fun K hK => ?_) AllReadyH.nil
            case hiGB20 => (simp only [List.getElem?_toArray, List.getElem?_cons_succ, List.getElem?_cons_zero]; try rfl)
            go_simp
            refine (HPC.out _ K5.out).mono ?_; rintro e w6 ⟨u6, rfl, ⟨b6, d6, rfl, h6, _⟩, k6⟩; have K6 := Lib.hid (K5.out.trans' k6); have H6 := Lib.hid h6; clear h6 k6
            go_wp2_with fail
            refine hK.out _ _ (⟨(K6.out).cell' HDR5.out (fun f => f), (K6.out).cell' HDU5.out (fun f => f), (K6.out).cell' HDN5.out (fun f => f)⟩) (fun hHeld => ?_)
            clear hK K
            (try simp only [Act.put, List.setIfInBounds_toArray, List.set_cons_zero, List.set_cons_succ])
            refine wpAnyH_ready (rs := [26]) (by kernel_rfl) (by simp) ?_
            refine AllReadyH.cons (o := ?oGB26) ?hiGB26 (fun K hK => ?_) AllReadyH.nil
            case hiGB26 => (simp only [List.getElem?_toArray, List.getElem?_cons_succ, List.getElem?_cons_zero]; try rfl)
            go_simp
            obtain ⟨_, _, e8, hsl6, _⟩ := H6.out.sl (HSZ.out y); cases e8; have HEQ := Lib.hid (rEqPuts_any _ _ (ps y) _ _ (ps y) w6 hsl6 (HSL5.out.keep K6.out (fun _ _ f => f))); clear hsl6; refine HEQ.out.mono ?_; rintro e w7 ⟨rfl, k7⟩; rw [eqPuts_iff.2 rfl]; have K7 := Lib.hid (K6.out.trans' k7); clear k7
            go_wp2_with fail
            refine hK.out _ _ (⟨(K7.out).cell' HDR5.out (fun f => f), (K7.out).cell' HDU5.out (fun f => f), (K7.out).cell' HDN5.out (fun f => f)⟩) (fun hHeld => ?_)
            clear hK K
            (try simp only [Act.put, List.setIfInBounds_toArray, List.set_cons_zero, List.set_cons_succ])
            refine wpAnyH_take (i := 27) (oi := ?oGB27) (v := ?vGB27) ?hiGB27 (by kernel_rfl) (by kernel_rfl) (by kernel_rfl) (fun _ _ _ h => h) (Or.inl ⟨?wGB27, ?yGB27⟩) (by assumption) ?rGB27
            case hiGB27 => (simp only [List.getElem?_toArray, List.getElem?_cons_succ, List.getElem?_cons_zero]; try rfl)
            case wGB27 => rfl
            case yGB27 => (intro w hSw; (try dsimp only at hSw); go_simp; (try with_reducible rfl))
            (try simp only [Act.put, List.setIfInBounds_toArray, List.set_cons_zero, List.set_cons_succ])
            refine wpAnyH_take (i := 28) (oi := ?oGB28) (v := ?vGB28) ?hiGB28 (by kernel_rfl) (by kernel_rfl) (by kernel_rfl) (fun _ _ _ h => h) (Or.inl ⟨?wGB28, ?yGB28⟩) (by assumption) ?rGB28
            case hiGB28 => (simp only [List.getElem?_toArray, List.getElem?_cons_succ, List.getElem?_cons_zero]; try rfl)
            case wGB28 => rfl
            case yGB28 => (intro w hSw; (try dsimp only at hSw); go_simp; (try with_reducible rfl))
            (try simp only [Act.put, List.setIfInBounds_toArray, List.set_cons_zero, List.set_cons_succ])
            refine wpAnyH_done (by kernel_rfl) ?_ _
            refine NoPanic.normal ?_
            have HNX := Lib.hid (HF5.out.keepN K7.out)
            go_wp2_with fail
            go_roundw
            case rel => exact ⟨N1 + 1, by omega, by go_num, HNX.out⟩
            case measure => simp [intOf]; omega
        · have hlt2 : ¬ (N1 : Int) < n := by omega
          have hlt3 : decide ((N1 : Int) < n) = false := by simp; omega
          obtain rfl : N1 = n := by omega
          have htk : KL.take N1 = KL := List.take_of_length_le (by rw [HN.out]; exact Nat.le_refl _)
          have hTI := HTR.out
          have hAL := HL2.out
          rw [htk] at hTI hAL
          have HTI := Lib.hid hTI; have HALL := Lib.hid hAL
          have hmm := HM.out
          rw [htk] at hmm
          have HMM := Lib.hid hmm
          have HC1 := Lib.hid (la_tids HA9.out HSTR.out HKM.out (by omega))
          have hki : ∀ y ∈ KL, KI y := fun y hy => ki_small (by have := HRG.out y hy; omega)
          have HKI := Lib.hid hki
          have hkl : KL.length ≤ 1000 := by rw [HN.out]; omega
          have HKL := Lib.hid hkl
          have h99 : cn 99 = 0 := by
            have h1 := HA.out.cr 99
            have h2 : ¬ 1 ≤ cn 99 := fun e => by have := HRG.out 99 ((HKM.out 99).2 e); omega
            omega
          have H99 := Lib.hid h99
          clear hlt htk hTI hAL hmm hki hkl h99
          go_wp2_with fail
          refine HC1.out.mono ?_
          rintro e w5 ⟨u, rfl, h5, k5⟩
          have HE := Lib.hid (eqL_any _ _ u (.slice to_ N1 tc) KL w5 h5 (HTI.out.keep k5 (fun _ _ f => f)))
          have HK5 := Lib.hid k5
          clear h5 k5
          go_wp2_with fail
          refine HE.out.mono ?_
          rintro e w6 ⟨rfl, k6⟩
          have HK6 := Lib.hid (HK5.out.trans' k6)
          have HC2 := Lib.hid (la_all (HA9.out.keepN HK6.out) HSTR.out HKM.out (by omega) HKI.out HKL.out)
          clear k6
          go_wp2_with fail
          refine HC2.out.mono ?_
          rintro e w7 ⟨u7, rfl, ⟨b7, d7, rfl, h7, _⟩, k7⟩
          have HK7 := Lib.hid (HK6.out.trans' k7)
          obtain ⟨_, _, e8, hsl7, _⟩ := h7.sl (fun q hq => by obtain ⟨y, _, h⟩ := List.mem_flatMap.1 hq; exact HSZ.out y q h)
          cases e8
          have heq := rEqPuts_any _ _ (KL.flatMap ps) _ _ (KL.flatMap ps) w7 hsl7 (HALL.out.keep HK7.out (fun _ _ f => f))
          rw [HMM.out] at heq ⊢
          rw [eqPuts_iff.2 rfl] at heq
          have HEQ := Lib.hid heq
          clear h7 k7 hsl7 heq
          go_wp2_with fail
          refine HEQ.out.mono ?_
          rintro e w8 ⟨rfl, k8⟩
          have HK8 := Lib.hid (HK7.out.trans' k8)
          have hN9 := la_N (HA9.out.keepN HK8.out) 99 (ki_small (by omega))
          rw [H99.out] at hN9
          have HN9 := Lib.hid hN9
          clear k8 hN9
          go_wp2_with fail
          refine HN9.out.mono ?_
          rintro e w9 ⟨rfl, hw⟩
          obtain rfl : w8 = w9 := hw.symm
          go_wp2_with fail
          go_ret
          exact ⟨rfl, (KP.out.trans' HK9.out).trans' HK8.out⟩

set_option linter.unusedVariables false
set_option maxRecDepth 100000 in
theorem lifted (os : Os) (started : os.Started) (H : Type) (enc : TypeId × Value → H) :
    ReturnsInHanded {} Tryz.checked os 7 .any (Rows.lockAllSpec.pre6 enc Tryz.prog Tryz.f7 Rows.lockAllRow.domain false) (Rows.lockAllSpec.post enc Tryz.prog Tryz.f7 false true false false) := by
  refine returnsInHanded_of_change (C := Tryz.checked) own started (by kernel_rfl) Tryz.func7
    (ChangeSpec.witness6 (enc := enc) (C := Tryz.checked) false ⟨#[], #[.slice none 0 0], []⟩ 8 (by kernel_rfl) (by kernel_rfl) (by kernel_rfl) (by kernel_rfl)) ?_
  intro W base args ds gs before hval0 hW hcnd _
  have hval : ∀ (j : Nat) t v, Tryz.f7.params[j]? = some t → args[j]? = some v → Value.okWide Tryz.prog W .any base t v := hval0
  have hW' := hW
  obtain ⟨p, q, hA0, hV, rfl, hfz, hnd⟩ := hW
  have hA : DataW.TrodAll enc Tryz.prog W 0 (fun _ => true) true Tryz.f7.params.toList args.toList ds p := hA0
  rw [Tryz.params7] at hA hval
  obtain ⟨v0, vs0, d0, ds0, p0, q0, hargs, rfl, rfl, h0, r0⟩ := trodAll_cons hA
  obtain ⟨rfl, rfl, rfl⟩ := trodAll_nil r0
  obtain rfl : args = #[v0] := by cases args; simp_all
  obtain ⟨rfl, rfl⟩ := trodVars_none hV
  obtain ⟨a0, len0, cap0, rfl⟩ := okWide_slice Tryz.underlying47 (hval 0 47 v0 rfl rfl)
  have k0 := h0
  have lt0 : ∀ x ∈ p0, x.block < W.heap.size := by obtain ⟨m, hm⟩ := k0; exact DataW.trod_lt m _ _ _ hm
  obtain ⟨z0, w0⟩ := open_arg0 W base h0
  clear hA0 hval0
  refine (walk W a0 len0 cap0 z0 w0).mono fun e W' ⟨he, hk⟩ => ?_
  subst he
  have bel := Keep.below hk
  exact ⟨_, rfl, _, _, _, [], _, [], hW', trodAll_mk1 (shut_bool Tryz.underlying4 _), (trodAll_cons_mk (Below.trod laidOut (by kernel_rfl) (of_decide_eq_true (by kernel_rfl)) k0 bel lt0) trodAll_mk0), rfl, bel.frame _, fun h => by cases h⟩

theorem over : Rows.lockAllRow.holds Tryz.pinned (OpenSpec.ofChange Rows.lockAllSpec) :=
  OpenClaim.holds_of_wide 7 Tryz.f7 rfl rfl rfl rfl rfl rfl rfl ⟨rfl, rfl, rfl, rfl, rfl⟩ rfl rfl rfl rfl rfl (by kernel_rfl) Tryz.func7 (by kernel_rfl)
    (of_decide_eq_true (by kernel_rfl)) (by unfold Func.isWrapper; rw [if_neg (of_decide_eq_false (by kernel_rfl))]; exact ⟨rfl, rfl⟩)
    (fun os started H enc _ => lifted os started H enc)

/-- The statement. -/
theorem proved : Rows.LockAllSaid := over
#print axioms proved
end Go.Proofs.YtdbgplnjppaimaaGreat.lockAll
