/- TopQueues: the bodies of a queue: the walk. -/
import Derived.Test.YtkjdclpneaepkaaGreatEv98
set_option linter.unusedVariables false
open Go Go.Ev Go.Proofs Go.RowKit
namespace Go.Proofs.YtkjdclpneaepkaaGreat.Qu
theorem call_step {Pr : Nat → Prop} {ρ : Ren} {h h' : Hp} {nx nx' : Pa} {w : World} {f : Nat} {args av : AV} {vs : List Value} (lt : ∀ g, Pr g → g < w.heap.size) (H : HR ρ h nx w) (ho : ∀ g, Live ρ h g → ¬ Pr g) (hv : Vs ρ args vs) (e : cQ f args h nx = .ok av h' nx') :
    Calls Tryz.prog f vs.toArray w fun x w' => ∃ ρ' v, x = .returned v ∧ V ρ' av v ∧ HR ρ' h' nx' w' ∧ Ext ρ ρ' ∧ (∀ g, Live ρ' h' g → ¬ Pr g) ∧ (∀ g, Pr g → g < w'.heap.size) ∧ KP Pr w w' :=
  (callQ H hv e).mono fun x w' ⟨ρ', v, k1, k2, k3, k4⟩ => ⟨ρ', v, k1, k2, k3, k4.ext, fun g o p => by
    rcases k4.live g o with o | o
    · exact ho g o p
    · have := lt g p; omega, fun g p => Nat.lt_of_lt_of_le (lt g p) k4.size, ⟨k4.os, k4.tape, k4.output, k4.size, fun g hg hp => k4.keep g hg fun o => ho g (own_live o) (Classical.byContradiction fun q => hp q)⟩⟩
/-- Behind the first question. -/
def Q1 (Pr : Nat → Prop) (v4 : Value) (l ts : List Nat) (m : Nat) (w : World) : Prop := (∀ g, Pr g → g < w.heap.size) ∧ ∃ a ids h nx ρ,
  (rvB (cQ 27 (.cn a (.cn (.i .i64 (.ofNat 1)) .nl)) h nx) fun b2 h2 n2 => rvB (cQ 28 (.cn b2 .nl) h2 n2) fun s h3 n3 => ifV (msV l ids s h3) (bods l a ids m h3 n3)) = true ∧ HR ρ h nx w ∧ V ρ a v4 ∧ NmR ρ ids ts ∧ ∀ g, Live ρ h g → ¬ Pr g
/-- Behind the second one. -/
def Q2 (Pr : Nat → Prop) (v4 bv : Value) (l ts : List Nat) (m : Nat) (w : World) : Prop := (∀ g, Pr g → g < w.heap.size) ∧ ∃ a b2 ids h nx ρ,
  (rvB (cQ 28 (.cn b2 .nl) h nx) fun s h3 n3 => ifV (msV l ids s h3) (bods l a ids m h3 n3)) = true ∧ HR ρ h nx w ∧ V ρ a v4 ∧ V ρ b2 bv ∧ NmR ρ ids ts ∧ ∀ g, Live ρ h g → ¬ Pr g
theorem bods_succ (l : List Nat) (a : AV) (ids : List Pa) (m : Nat) (h : Hp) (nx : Pa) : bods l a ids (m + 1) h nx = bod l a ids h nx (bods l a ids m) := rfl
theorem callB1 {Pr : Nat → Prop} {v4 : Value} {l ts : List Nat} {m : Nat} {w : World} (s : St2 Pr v4 l ts (m + 1) w) : Calls Tryz.prog 27 #[v4, .int .i64 1] w fun e w' => ∃ p, e = .returned (.pointer (some p)) ∧ Q1 Pr v4 l ts m w' ∧ KP Pr w w' := by
  obtain ⟨lt, a, ids, h, nx, ρ, c, H, hv, hn, ho⟩ := s
  rw [bods_succ] at c
  obtain ⟨b, h1, n1, e1, c1⟩ := rvB_ok c
  cases b with
  | p id off =>
    refine (call_step (vs := [v4, .int .i64 1]) lt H ho (show Vs ρ (.cn a (.cn (.i .i64 (.ofNat 1)) .nl)) _ from ⟨_, _, rfl, hv, _, _, rfl, rfl, rfl⟩) e1).mono fun x w' ⟨ρ', v, k1, ⟨g, t, _, k2⟩, k3, k4, k5, k6, k7⟩ => ⟨⟨g, off, none⟩, by rw [k1, k2], ⟨k6, a, ids, h1, n1, ρ', c1, k3, V_mono k4 hv, NmR_mono k4 _ _ hn, k5⟩, k7⟩
  | _ => cases c1
theorem callB2 {Pr : Nat → Prop} {v4 : Value} {l ts : List Nat} {m : Nat} {w : World} (s : Q1 Pr v4 l ts m w) : Calls Tryz.prog 27 #[v4, .int .i64 1] w fun e w' => ∃ bv, e = .returned bv ∧ Q2 Pr v4 bv l ts m w' ∧ KP Pr w w' := by
  obtain ⟨lt, a, ids, h, nx, ρ, c, H, hv, hn, ho⟩ := s
  obtain ⟨b, h1, n1, e1, c1⟩ := rvB_ok c
  exact (call_step (vs := [v4, .int .i64 1]) lt H ho (show Vs ρ (.cn a (.cn (.i .i64 (.ofNat 1)) .nl)) _ from ⟨_, _, rfl, hv, _, _, rfl, rfl, rfl⟩) e1).mono fun x w' ⟨ρ', v, k1, k2, k3, k4, k5, k6, k7⟩ => ⟨v, k1, ⟨k6, a, b, ids, h1, n1, ρ', c1, k3, V_mono k4 hv, k2, NmR_mono k4 _ _ hn, k5⟩, k7⟩
/-- Messages in memory. -/
def MsAt (w : World) (ao : Option Addr) (l ts : List Nat) : Prop := ∀ i (hi : i < l.length) (hi' : i < ts.length), ∃ g v0 v3, ao = some ⟨g, 0, none⟩ ∧ (IntV v0 ∧ IntV v3) ∧ w.cell? ⟨g, i * 6, none⟩ = some v0 ∧ w.cell? ⟨g, i * 6 + 1, none⟩ = some (.string (qn ts[i])) ∧ w.cell? ⟨g, i * 6 + 2, none⟩ = some (.string (tx l[i])) ∧ w.cell? ⟨g, i * 6 + 3, none⟩ = some v3 ∧ w.cell? ⟨g, i * 6 + 4, none⟩ = some (.int .i64 0) ∧ w.cell? ⟨g, i * 6 + 5, none⟩ = some (.int .i64 0)
theorem callSt {Pr : Nat → Prop} {v4 bv : Value} {l ts : List Nat} {m : Nat} {w : World} (s : Q2 Pr v4 bv l ts m w) : Calls Tryz.prog 28 #[bv] w fun e w' => ∃ u0 u1 u2 u3 u5 u6 u7 u8 ao cp, e = .returned (.agg #[u0, u1, u2, u3, .slice ao l.length cp, u5, u6, u7, u8]) ∧ (IntV u0 ∧ IntV u1 ∧ IntV u2 ∧ IntV u3 ∧ SliV u5 ∧ SliV u6 ∧ SliV u7 ∧ SliV u8) ∧ ts.length = l.length ∧ MsAt w' ao l ts ∧ St2 Pr v4 l ts m w' ∧ KP Pr w w' := by
  obtain ⟨lt, a, b2, ids, h, nx, ρ, c, H, hv, hb, hn, ho⟩ := s
  obtain ⟨s, h1, n1, e1, c1⟩ := rvB_ok c
  obtain ⟨c2, c3⟩ := ifV_ok c1
  refine (call_step (vs := [bv]) lt H ho (show Vs ρ (.cn b2 .nl) _ from ⟨_, _, rfl, hb, rfl⟩) e1).mono fun x w' ⟨ρ', v, k1, k2, k3, k4, k5, k6, k7⟩ => ?_
  have hn' := NmR_mono k4 _ _ hn
  obtain ⟨u0, u1, u2, u3, u5, u6, u7, u8, ao, cp, rfl, h8, hl, hm⟩ := msV_ok k3 k2 c2 hn'
  exact ⟨u0, u1, u2, u3, u5, u6, u7, u8, ao, cp, k1, h8, hl, hm, ⟨k6, a, ids, h1, n1, ρ', c3, k3, V_mono k4 hv, hn', k5⟩, k7⟩
theorem qn_eq (a b : Nat) : ((qn a).toList == (qn b).toList) = (a % 8 == b % 8) := by
  have e0 : ∀ x y : List UInt8, ((⟨x.toArray⟩ : ByteArray).toList == (⟨y.toArray⟩ : ByteArray).toList) = decide (x = y) := fun x y => by
    by_cases q : x = y <;> simp [q]
  show ((⟨(qnL a).toArray⟩ : ByteArray).toList == (⟨(qnL b).toArray⟩ : ByteArray).toList) = _
  rw [e0]
  by_cases h : a % 8 = b % 8
  · rw [qnL_of h]; simp [h]
  · have : qnL a ≠ qnL b := fun q => h (qnL_inj q)
    simp [h, this]
set_option maxHeartbeats 400000 in
theorem dead_q (v0 v1 v2 v3 : Value) (w : World) : Calls Tryz.prog 50 #[.agg #[v0, v1, v2, v3, .int .i64 0, .int .i64 0]] w fun e w' => e = .returned (.bool false) ∧ Keep NoF w w' := by
  have K := Lib.hid ((Keep.refl NoF w).alloc (.cells #[v0, v1, v2, v3, .int .i64 0, .int .i64 0] 61))
  go_enter Tryz.func50, Tryz.ntmps50
  go_wp2_with fail
  go_ret
  exact ⟨rfl, K.out⟩
theorem infoTx : (Tryz.prog.info? 9).map (fun i => (i.zero, i.size, i.bytes)) = some (some (.string ByteArray.empty), 1, 16) := by kernel_rfl
/-- Texts in a slice of one's own. -/
def OwnT (lo : Nat) (w : World) (v : Value) (xs : List Nat) : Prop := w.ownsRow 0 9 1 v xs.length (xs.map fun i => Value.string (tx i)) ∧ ∀ g, v.ownBlock = some g → lo ≤ g
theorem OwnT.slt {lo : Nat} {w : World} {v : Value} {xs : List Nat} (h : OwnT lo w v xs) : SlT w v (xs.map tx) := by
  obtain ⟨h, -⟩ := h
  rcases h.2 with ⟨rfl, he⟩ | ⟨g, cap, cur, rfl, hgb, hh, hlc, hcm, hcs, htk⟩
  · exact ⟨none, 0, by rw [List.length_map, he], fun i hi => by rw [List.length_map, he] at hi; omega⟩
  · refine ⟨some ⟨g, 0, none⟩, cap, by rw [List.length_map], fun i hi => ⟨g, 0, rfl, ?_⟩⟩
    rw [List.length_map] at hi
    rw [cell_of_heap hh, Nat.zero_add, ← Array.getElem?_toList, ← List.getElem?_take_of_lt (show i < xs.length * 1 by omega), htk]
    simp [List.getElem?_eq_getElem hi]
theorem OwnT.keep {lo : Nat} {w w' : World} {v : Value} {xs : List Nat} (h : OwnT lo w v xs) (k : Keep NoF w w') : OwnT lo w' v xs := by
  refine ⟨⟨h.1.1, ?_⟩, h.2⟩
  rcases h.1.2 with ⟨e, he⟩ | ⟨g, cap, cur, e, hgb, hh, q⟩
  · exact .inl ⟨e, he⟩
  · exact .inr ⟨g, cap, cur, e, hgb, (k.block g (lt_of_heap hh) (fun f => f)).trans hh, q⟩
theorem OwnT.lt {lo : Nat} {w : World} {v : Value} {xs : List Nat} (h : OwnT lo w v xs) : ∀ g, v.ownBlock = some g → g < w.heap.size := by
  rcases h.1.2 with ⟨e, he⟩ | ⟨g, cap, cur, e, hgb, hh, q⟩
  · subst e; nofun
  · intro g' hg
    subst e
    have : g = g' := by injection hg
    subst this; exact lt_of_heap hh
/-- One text more. -/
theorem OwnT.more {lo : Nat} {w wa w' : World} {v v' : Value} {xs : List Nat} {x n : Nat} {nw : List Value} (h : OwnT lo w v xs) (hk : Keep NoF w wa) (hlo : lo ≤ w.heap.size) (hn : n = xs.length + 1) (hw : nw = (xs.map fun i => Value.string (tx i)) ++ [.string (tx x)]) (ho : w'.ownsRow 0 9 1 v' n nw) (hb : v'.ownBlock = v.ownBlock ∨ v'.ownBlock = some wa.heap.size) : OwnT lo w' v' (xs ++ [x]) := by
  subst hn hw
  refine ⟨by rw [List.length_append, List.map_append]; exact ho, fun g hg => ?_⟩
  rcases hb with hb | hb
  · rw [hb] at hg; exact h.2 g hg
  · rw [hb] at hg
    have : wa.heap.size = g := by injection hg
    have := hk.size
    omega
/-- The texts of one queue among the first i. -/
def pre (l ts : List Nat) (t i : Nat) : List Nat := (((l.zip ts).take i).filter fun p => p.2 % 8 == t % 8).map (·.1)
theorem pre_succ (l ts : List Nat) (t i : Nat) (hi : i < l.length) (hi' : i < ts.length) : pre l ts t (i + 1) = pre l ts t i ++ (if (ts[i] % 8 == t % 8) = true then [l[i]] else []) := by
  unfold pre
  rw [List.take_succ_eq_append_getElem (by simp; omega), List.filter_append, List.map_append]
  congr 1
  simp only [List.getElem_zip]
  by_cases h : (ts[i] % 8 == t % 8) = true <;> simp [h]
theorem pre_all (l ts : List Nat) (t : Nat) (h : ts.length = l.length) : pre l ts t l.length = of1 l ts t := by
  unfold pre of1
  rw [List.take_of_length_le (by simp; omega)]
theorem pre_len (l ts : List Nat) (t i : Nat) : (pre l ts t i).length ≤ i := by
  unfold pre
  rw [List.length_map]
  exact Nat.le_trans (List.length_filter_le _ _) (by simp; omega)
set_option maxRecDepth 8000 in
set_option maxHeartbeats 4000000 in
theorem bodies_q {Pr : Nat → Prop} {v4 : Value} {l ts : List Nat} {m : Nat} {w : World} (s : St2 Pr v4 l ts (m + 1) w) (hl : l.length ≤ 1000) (t : Nat) :
    Calls Tryz.prog 23 #[v4, .int .i64 1, .string (qn t)] w fun e w' => ∃ v, e = .returned v ∧ SlT w' v ((of1 l ts t).map tx) ∧ St2 Pr v4 l ts m w' ∧ KP Pr w w' := by
  have HS := Lib.hid s
  obtain ⟨qv, hq⟩ : ∃ qv, qn t = qv := ⟨_, rfl⟩
  have HQ : Hid (∀ a, ((qn a).toList == qv.toList) = (a % 8 == t % 8)) := Lib.hid fun a => by rw [← hq]; exact qn_eq a t
  rw [hq]
  clear hq s
  go_enter Tryz.func23, Tryz.ntmps23
  go_wp2_with fail
  refine (callB1 HS.out).mono ?_
  rintro e w1 ⟨p, rfl, hs1, hk1⟩
  have HS1 := Lib.hid hs1; have K1 := Lib.hid hk1
  clear hs1 hk1 HS
  go_wp2_with fail
  refine (callB2 HS1.out).mono ?_
  rintro e w2 ⟨bv, rfl, hs2, hk2⟩
  have HS2 := Lib.hid hs2; have K2 := Lib.hid (K1.out.trans' hk2)
  clear hs2 hk2 HS1 K1
  go_wp2_with fail
  refine (callSt HS2.out).mono ?_
  rintro e w3 ⟨u0, u1, u2, u3, u5, u6, u7, u8, ao, cp, rfl, h8, hts, hms, hs3, hk3⟩
  have HS3 := Lib.hid hs3; have K3 := Lib.hid (K2.out.trans' hk3); have HM := Lib.hid hms
  clear hs3 hk3 HS2 K2 hms
  obtain ⟨n, hn⟩ : ∃ n, l.length = n := ⟨_, rfl⟩
  have HN := Lib.hid hn; have HT : Hid (ts.length = n) := Lib.hid (by rw [hts, hn])
  rw [hn] at hl ⊢
  obtain ⟨⟨n0, rfl⟩, ⟨n1, rfl⟩, ⟨n2, rfl⟩, ⟨n3, rfl⟩, ⟨a5, l5, c5, rfl⟩, ⟨a6, l6, c6, rfl⟩, ⟨a7, l7, c7, rfl⟩, ⟨a8, l8, c8, rfl⟩⟩ := h8
  clear hn hts
  go_wp2_with fail
  go_loopw [7, 9] (fun lv iv wr => ∃ i : Nat, i ≤ n ∧ iv = .int .i64 (i : Int) ∧ OwnT (w3.heap.size + 1) wr lv (pre l ts t i) ∧ wr.heap[w3.heap.size]? = some (.cells #[.int .i64 n0, .int .i64 n1, .int .i64 n2, .int .i64 n3, .slice ao n cp, .slice a5 l5 c5, .slice a6 l6 c6, .slice a7 l7 c7, .slice a8 l8 c8] 56 (0, 0)) ∧ Keep NoF w3 wr) (fun _ iv _ => n - (intOf iv).toNat)
  case atStart => exact ⟨0, Nat.zero_le _, rfl, ⟨World.ownsRow_nil _ 0 _ _, nofun⟩, heap_new w3 _, (Keep.refl NoF w3).alloc _⟩
  case round =>
    obtain ⟨i, hi, rfl, hot, hst, hk⟩ := hrel
    have HO := Lib.hid hot; have HST := Lib.hid hst; have K := Lib.hid hk
    have c4 : wr.cell? ⟨w3.heap.size, 4, none⟩ = some (.slice ao n cp) := by rw [cell_of_heap hst]; rfl
    clear hot hst hk
    by_cases hlt : i < n
    · have hlt2 : (i : Int) < n := by omega
      have hlt3 : decide ((i : Int) < n) = true := by simp [hlt]
      have hps := pre_succ l ts t i (by have := HN.out; omega) (by have := HT.out; omega)
      obtain ⟨g, v0, v3, rfl, ⟨⟨k0, rfl⟩, ⟨k3, rfl⟩⟩, m0, m1, m2, m3, m4, m5⟩ := HM.out i (by have := HN.out; omega) (by have := HT.out; omega)
      have m0 := K.out.cell' m0 (fun f => f)
      have m1 := K.out.cell' m1 (fun f => f)
      have m2 := K.out.cell' m2 (fun f => f)
      have m3 := K.out.cell' m3 (fun f => f)
      have m4 := K.out.cell' m4 (fun f => f)
      have m5 := K.out.cell' m5 (fun f => f)
      have hq := HQ.out (ts[i]'(by have := HT.out; omega))
      rw [← hq] at hps
      obtain ⟨s, hs⟩ : ∃ s, qn (ts[i]'(by have := HT.out; omega)) = s := ⟨_, rfl⟩
      obtain ⟨x, hx⟩ : ∃ x, l[i]'(by have := HN.out; omega) = x := ⟨_, rfl⟩
      obtain ⟨bd, hbd⟩ : ∃ bd, tx x = bd := ⟨_, rfl⟩
      rw [hs] at m1 hps
      rw [hx, hbd] at m2
      rw [hx] at hps
      obtain ⟨b, hb⟩ : ∃ b, (s.toList == qv.toList) = b := ⟨_, rfl⟩
      rw [hb] at hps
      have HPS := Lib.hid hps; have HBD := Lib.hid hbd
      clear hps hs hx hbd hq
      cases b with
      | false =>
        go_wp2_with fail
        go_roundw
        case rel => exact ⟨i + 1, by omega, by go_num, by rw [HPS.out, if_neg (by simp), List.append_nil]; exact HO.out.keep ((Keep.refl NoF wr).alloc _), by rw [heap_alloc_old wr _ (lt_of_heap HST.out)]; exact HST.out, K.out.alloc _⟩
        case measure => simp [intOf]; omega
      | true =>
        have ka : Keep NoF wr (wr.alloc (.cells #[.int .i64 k0, .string s, .string bd, .int .i64 k3, .int .i64 0, .int .i64 0] 61)) := (Keep.refl NoF wr).alloc _
        have hb5 := heap_new wr (.cells #[.int .i64 k0, .string s, .string bd, .int .i64 k3, .int .i64 0, .int .i64 0] 61)
        have KA := Lib.hid ka; have HB5 := Lib.hid hb5
        clear ka hb5
        go_wp2_with fail
        refine (dead_q _ _ _ _ _).mono ?_
        rintro e w5 ⟨rfl, hk5⟩
        have hb6 := (hk5.block _ (lt_of_heap HB5.out) (fun f => f)).trans HB5.out
        have KA5 := Lib.hid (KA.out.trans' hk5)
        have c2 : w5.cell? ⟨wr.heap.size, 2, none⟩ = some (.string bd) := by rw [cell_of_heap hb6]; rfl
        have ho5 := HO.out.keep KA5.out
        obtain ⟨r, hr⟩ : ∃ r, (pre l ts t i).length = r := ⟨_, rfl⟩
        have hrl : r ≤ 1000 := by rw [← hr]; have := pre_len l ts t i; omega
        have ho6 := ho5.1
        rw [hr] at ho6
        have HR := Lib.hid hr
        clear hb6 hk5 hr
        go_wp2_with (at_builtin; refine wpList_app 26 26 9 (.string ByteArray.empty) 1 16 Tryz.underlying26 infoTx rfl (by decide) (by decide) rfl rfl rfl rfl (ho6.alloc _) (Src.one Tryz.underlying26 (heap_new _ _) rfl 1) ?_ ?_)
        · omega
        intro ao2 cp2 w6 hown' hgr hown2
        have hlt5 := ho5.lt
        have hge5 := ho5.2
        have kb : Keep NoF w5 (w5.alloc (.cells #[.string bd] 9)) := (Keep.refl NoF w5).alloc _
        have hst5 := (KA5.out.block _ (lt_of_heap HST.out) (fun f => f)).trans HST.out
        have H6 : Hid (OwnT (w3.heap.size + 1) w6 (.slice ao2 (r + 1) cp2) (pre l ts t (i + 1)) ∧ w6.heap[w3.heap.size]? = some (.cells #[.int .i64 n0, .int .i64 n1, .int .i64 n2, .int .i64 n3, .slice (some ⟨g, 0, none⟩) n cp, .slice a5 l5 c5, .slice a6 l6 c6, .slice a7 l7 c7, .slice a8 l8 c8] 56 (0, 0)) ∧ Keep NoF w3 w6) := Lib.hid (by
          refine ⟨?_, ?_, ?_⟩
          · rw [HPS.out, if_pos trivial]
            have hsz := K.out.size
            have hs5 := KA5.out.size
            have h0 := lt_of_heap HST.out
            exact ho5.more kb (by omega) (by rw [HR.out]) (by rw [HBD.out]) hown' (by simpa using hown2)
          · rw [hgr.block _ (Nat.lt_of_lt_of_le (lt_of_heap hst5) kb.size) (fun e => by have := hge5 _ e.symm; omega), kb.block _ (lt_of_heap hst5) (fun f => f)]; exact hst5
          · exact ((K.out.trans' KA5.out).trans' kb).grown hgr (fun k hk e => by have := hge5 k e; omega))
        clear hown' hgr hown2 hlt5 hge5 kb hst5 ho5 ho6
        go_wp2_with fail
        go_roundw
        case rel => exact ⟨i + 1, by omega, by go_num, H6.out.1, H6.out.2.1, H6.out.2.2⟩
        case measure => simp [intOf]; omega
    · obtain rfl : i = n := by omega
      have hlt2 : ¬ (i : Int) < i := by omega
      have hlt3 : decide ((i : Int) < i) = false := by simp
      go_wp2_with fail
      go_ret
      refine ⟨_, rfl, ?_, HS3.out.keep K.out, K3.out.trans K.out (fun _ _ q => q) (fun _ _ f => f.elim)⟩
      have := HO.out.slt
      rw [← HN.out, pre_all l ts t (by rw [HT.out, HN.out])] at this
      exact this
end Go.Proofs.YtkjdclpneaepkaaGreat.Qu
