/- Packets compared. The document's bytes of a packet. law15's begun. Packets that come in. -/
import Derived.Test.YtlabhbjampkhpaaGreatPack
import Derived.Laws.StructEq
import Derived.Test.YtlabhbjampkhpaaGreatAppB
import Derived.Test.YtlabhbjampkhpaaGreatRefSum
import Derived.Test.YtlabhbjampkhpaaGreatWireX
import Derived.Deep.CutRange
import Derived.Test.YtlabhbjampkhpaaGreatNetX
import Derived.Test.YtlabhbjampkhpaaGreatBegun6
import Derived.Test.YtlabhbjampkhpaaGreatBegun8
import Derived.Deep.Slices
import Derived.Deep.Strs
import Derived.Lib.SmallJoins
import Derived.OpenShut
import Derived.WideShapes
section
open Go Go.RowKit
namespace Go.Proofs.YtlabhbjampkhpaaGreat
def eqP (p q : PackV) : Bool := decide (p.kind = q.kind) && (decide (p.from_ = q.from_) && (decide (p.to = q.to) && (decide (p.tid = q.tid) && (decide (p.n = q.n) && decide (p.yes = q.yes)))))
theorem eqP_iff (p q : PackV) : eqP p q = true ↔ p = q := by
  obtain ⟨a0, a1, a2, a3, a4, a5⟩ := p
  obtain ⟨b0, b1, b2, b3, b4, b5⟩ := q
  simp [eqP]
theorem eqP_self (p : PackV) : eqP p p = true := (eqP_iff p p).2 rfl
theorem eqP_ne {p q : PackV} (h : p ≠ q) : eqP p q = false := by
  rw [Bool.eq_false_iff]; exact fun e => h ((eqP_iff p q).1 e)
theorem eqPk_in (p q : PackV) (w : World) : (Op.equalIn 10000 23 (packVal p) (packVal q)).run Tryz.prog w = .ok (eqP p q) w := by
  obtain ⟨a0, a1, a2, a3, a4, a5⟩ := p
  obtain ⟨b0, b1, b2, b3, b4, b5⟩ := q
  unfold packVal
  rw [run_equalIn_struct w 9999 23 _ _ (by kernel_rfl) (by kernel_rfl)]
  go_simp
  unfold eqP
  dsimp only
  by_cases h0 : a0 = b0
  · by_cases h1 : a1 = b1
    · by_cases h2 : a2 = b2
      · by_cases h3 : a3 = b3
        · by_cases h4 : a4 = b4
          · by_cases h5 : a5 = b5
            · simp [h0, h1, h2, h3, h4, h5]
            · simp [h0, h1, h2, h3, h4, h5]
          · simp [h0, h1, h2, h3, h4]
        · simp [h0, h1, h2, h3]
      · simp [h0, h1, h2]
    · simp [h0, h1]
  · simp [h0]
theorem eqPk (p q : PackV) (w : World) : (binOp .eql 23 (packVal p) (packVal q)).run Tryz.prog w = .ok (.bool (eqP p q)) w := by
  unfold packVal
  rw [run_eql_struct]
  have h := eqPk_in p q w
  unfold packVal at h
  rw [h]; rfl
theorem nePk (p q : PackV) (w : World) : (binOp .neq 23 (packVal p) (packVal q)).run Tryz.prog w = .ok (.bool (!eqP p q)) w := by
  unfold packVal
  rw [run_neq_struct]
  have h := eqPk_in p q w
  unfold packVal at h
  rw [h]; rfl
end Go.Proofs.YtlabhbjampkhpaaGreat
end

section
open Go Go.RowKit
namespace Go.Proofs.YtlabhbjampkhpaaGreat
theorem apart_new {wr : World} {v vn : Value} {l : List UInt8} (ho : OwnB wr v l) (hf : ∀ k, vn.ownBlock = some k → wr.heap.size ≤ k) : ∀ k, vn.ownBlock = some k → v.ownBlock ≠ some k := fun k hk e => by
  have := ho.lt k e
  have := hf k hk
  omega
theorem apart_app {wc w9 : World} {v v9 vL : Value} {l : List UInt8} (ho : OwnB wc vL l) (ha : ∀ k, vL.ownBlock = some k → v.ownBlock ≠ some k) (hgr : wc.grownBy w9 v.ownBlock) (hfr : v9.ownBlock = v.ownBlock ∨ v9.ownBlock = some wc.heap.size) :
    OwnB w9 vL l ∧ ∀ k, vL.ownBlock = some k → v9.ownBlock ≠ some k := by
  refine ⟨ho.keep ((Keep.refl (fun k => v.ownBlock = some k) wc).grown hgr (fun k _ e => e)) ha, fun k hk e => ?_⟩
  rcases hfr with f | f
  · exact ha k hk (f ▸ e)
  · rw [f] at e
    have := ho.lt k hk
    injection e with e
    omega
theorem size_alloc (w : World) (o : Obj) : (w.alloc o).heap.size = w.heap.size + 1 := by simp
theorem len_app {l l2 : List UInt8} {a b : Nat} (h : l.length = a) (h2 : l2.length = b) : (l ++ l2).length = a + b := by
  rw [List.length_append, h, h2]
set_option maxHeartbeats 16000000 in
set_option maxRecDepth 40000 in
theorem bytes15_any (p : PackV) (w : World) :
    Calls Tryz.prog 19 #[packVal p] w fun e w' => ∃ v, e = .returned v ∧ OwnB w' v (wireB p) ∧ Keep NoF w w' ∧ ∀ k, v.ownBlock = some k → w.heap.size ≤ k := by
  have HWB : Hid (wireB p = sealB (pkB p)) := Lib.hid rfl
  obtain ⟨k, f, t, d, n, y⟩ := p
  unfold packVal
  simp only
  go_enter Tryz.func19, Tryz.ntmps19
  go_upto_region 2 with fail
  have hb := heap_new w (.cells #[.int .i64 k, .int .i64 f, .int .i64 t, .int .i64 d, .int .i64 n, .bool y] 23 (0, 0))
  have hka : Keep NoF w (w.alloc (.cells #[.int .i64 k, .int .i64 f, .int .i64 t, .int .i64 d, .int .i64 n, .bool y] 23 (0, 0))) := keep_alloc _ _
  show Code.wp _ _ _ _ (w.alloc (.cells #[.int .i64 k, .int .i64 f, .int .i64 t, .int .i64 d, .int .i64 n, .bool y] 23 (0, 0)))
  obtain ⟨B, hB⟩ : ∃ B, w.heap.size = B := ⟨_, rfl⟩
  rw [hB] at hb
  generalize w.alloc (.cells #[.int .i64 k, .int .i64 f, .int .i64 t, .int .i64 d, .int .i64 n, .bool y] 23 (0, 0)) = W1 at hb hka ⊢
  rw [hB]
  have HC : Hid (∀ W, Keep NoF W1 W → W.cell? ⟨B, 0, none⟩ = some (.int .i64 k) ∧ W.cell? ⟨B, 1, none⟩ = some (.int .i64 f) ∧ W.cell? ⟨B, 2, none⟩ = some (.int .i64 t) ∧ W.cell? ⟨B, 3, none⟩ = some (.int .i64 d) ∧
      W.cell? ⟨B, 4, none⟩ = some (.int .i64 n) ∧ W.cell? ⟨B, 5, none⟩ = some (.bool y)) := by
    refine Lib.hid ?_
    intro W hW
    have h2 : W.heap[B]? = some (.cells #[.int .i64 k, .int .i64 f, .int .i64 t, .int .i64 d, .int .i64 n, .bool y] 23 (0, 0)) := by rw [hW.block B (lt_of_heap hb) (fun f => f)]; exact hb
    refine ⟨?_, ?_, ?_, ?_, ?_, ?_⟩
    all_goals (rw [cell_of_heap h2]; rfl)
  have KA := Lib.hid hka
  clear hka hB
  obtain ⟨d0, d1, d2, d3, d4, d5⟩ := HC.out W1 (Keep.refl NoF W1)
  obtain ⟨C, hC⟩ : ∃ C, W1.heap.size = C := ⟨_, rfl⟩
  go_upto_region 3 with fail
  have hc := heap_new W1 (.cells #[.int .i64 k, .int .i64 f, .int .i64 t] 3 (0, 0))
  have hkc : Keep NoF W1 (W1.alloc (.cells #[.int .i64 k, .int .i64 f, .int .i64 t] 3 (0, 0))) := keep_alloc _ _
  show Code.wp _ _ _ _ (W1.alloc (.cells #[.int .i64 k, .int .i64 f, .int .i64 t] 3 (0, 0)))
  rw [hC] at hc
  generalize W1.alloc (.cells #[.int .i64 k, .int .i64 f, .int .i64 t] 3 (0, 0)) = W2 at hc hkc ⊢
  have HCC := Lib.hid hc; have KC := Lib.hid hkc
  clear hc hkc hC d0 d1 d2 d3 d4 d5 hb
  go_loopw [3, 15] (fun av iv wr => ∃ (j : Nat) (l : List UInt8), j ≤ 3 ∧ iv = .int .i64 j ∧ l = ([k, f, t].take j).flatMap smallB ∧ AccI W2 wr av l) (fun _ iv _ => 3 - (intOf iv).toNat)
  case atStart => exact ⟨0, [], by omega, rfl, rfl, ⟨OwnB.nil _, Keep.refl _ _, nofun⟩⟩
  case round =>
    obtain ⟨j, l, hj, rfl, hl, hA⟩ := hrel
    have HL := Lib.hid hl; have HA := Lib.hid hA
    have hw := hA.keep.block C (lt_of_heap HCC.out) (fun f => f)
    have hrow := hw.trans HCC.out
    have c0 := cell_of_heap hrow 0
    have c1 := cell_of_heap hrow 1
    have c2 := cell_of_heap hrow 2
    simp at c0 c1 c2
    have hnl : l.length = 2 * j := by
      rw [hl]
      have : j = 0 ∨ j = 1 ∨ j = 2 ∨ j = 3 := by omega
      rcases this with rfl | rfl | rfl | rfl <;> simp [smallB_length]
    have HNL := Lib.hid hnl
    clear hl hA hw hrow hnl
    have hjj : j = 0 ∨ j = 1 ∨ j = 2 ∨ j = 3 := by omega
    rcases hjj with rfl | rfl | rfl | rfl
    · go_wp2_with fail
      refine (refSmall_any k _).mono ?_
      rintro e wx ⟨vx, rfl, hox, hkx, hfx⟩
      have ACCX := Lib.hid (HA.out.still hkx)
      have hrow := ACCX.out.row HNL.out
      have hsrc := own_srcN (P := Tryz.prog) hox (smallB_length k) Tryz.underlying24
      clear hox hkx hfx c0 c1 c2
      go_wp2_with (at_builtin; refine wpList_app 24 24 5 (.int .u8 0) 1 1 Tryz.underlying24 infoU8 rfl (by decide) (by decide) rfl rfl rfl rfl hrow hsrc (by omega) ?_)
      intro ao9 cp9 w9 hown9 hgr9 hfr9
      have ACC9 := Lib.hid (ACCX.out.app hown9 HNL.out.symm (smallB_length k).symm rfl hgr9 hfr9)
      clear hown9 hgr9 hfr9
      go_wp2_with fail
      go_roundw
      case rel => exact ⟨1, l ++ smallB k, by omega, by go_num, by rw [HL.out]; simp, ACC9.out⟩
      case measure => simp [intOf]
    · go_wp2_with fail
      refine (refSmall_any f _).mono ?_
      rintro e wx ⟨vx, rfl, hox, hkx, hfx⟩
      have ACCX := Lib.hid (HA.out.still hkx)
      have hrow := ACCX.out.row HNL.out
      have hsrc := own_srcN (P := Tryz.prog) hox (smallB_length f) Tryz.underlying24
      clear hox hkx hfx c0 c1 c2
      go_wp2_with (at_builtin; refine wpList_app 24 24 5 (.int .u8 0) 1 1 Tryz.underlying24 infoU8 rfl (by decide) (by decide) rfl rfl rfl rfl hrow hsrc (by omega) ?_)
      intro ao9 cp9 w9 hown9 hgr9 hfr9
      have ACC9 := Lib.hid (ACCX.out.app hown9 HNL.out.symm (smallB_length f).symm rfl hgr9 hfr9)
      clear hown9 hgr9 hfr9
      go_wp2_with fail
      go_roundw
      case rel => exact ⟨2, l ++ smallB f, by omega, by go_num, by rw [HL.out]; simp, ACC9.out⟩
      case measure => simp [intOf]
    · go_wp2_with fail
      refine (refSmall_any t _).mono ?_
      rintro e wx ⟨vx, rfl, hox, hkx, hfx⟩
      have ACCX := Lib.hid (HA.out.still hkx)
      have hrow := ACCX.out.row HNL.out
      have hsrc := own_srcN (P := Tryz.prog) hox (smallB_length t) Tryz.underlying24
      clear hox hkx hfx c0 c1 c2
      go_wp2_with (at_builtin; refine wpList_app 24 24 5 (.int .u8 0) 1 1 Tryz.underlying24 infoU8 rfl (by decide) (by decide) rfl rfl rfl rfl hrow hsrc (by omega) ?_)
      intro ao9 cp9 w9 hown9 hgr9 hfr9
      have ACC9 := Lib.hid (ACCX.out.app hown9 HNL.out.symm (smallB_length t).symm rfl hgr9 hfr9)
      clear hown9 hgr9 hfr9
      go_wp2_with fail
      go_roundw
      case rel => exact ⟨3, l ++ smallB t, by omega, by go_num, by rw [HL.out]; simp, ACC9.out⟩
      case measure => simp [intOf]
    · clear c0 c1 c2
      have HL6 : Hid (l.length = 6) := HNL
      have hl6 : l = (([] ++ smallB k) ++ smallB f) ++ smallB t := by rw [HL.out]; simp
      have HP : Hid (((l ++ longB d) ++ smallB n) ++ truthB y = pkB ⟨k, f, t, d, n, y⟩) := by rw [hl6]; exact Lib.hid rfl
      have ACC := HA
      have HC2 : Hid (∀ W, Keep NoF W2 W → W.cell? ⟨B, 0, none⟩ = some (.int .i64 k) ∧ W.cell? ⟨B, 1, none⟩ = some (.int .i64 f) ∧ W.cell? ⟨B, 2, none⟩ = some (.int .i64 t) ∧ W.cell? ⟨B, 3, none⟩ = some (.int .i64 d) ∧ W.cell? ⟨B, 4, none⟩ = some (.int .i64 n) ∧ W.cell? ⟨B, 5, none⟩ = some (.bool y)) := Lib.hid fun W hW => HC.out W (KC.out.trans' hW)
      clear hl6 HNL HL HCC
      obtain ⟨W0, rfl⟩ : ∃ W, W = wr := ⟨_, rfl⟩
      go_upto_region 7 with fail
      go_cut [3] from 24 to 52 (fun v wx => AccI W2 wx v (((l ++ longB d) ++ smallB n) ++ truthB y))
      case first =>
        refine wp_region_noPanic ?_
        refine wp_region_held_drew (S := (fun W' : World => W'.cell? ⟨B, 0, none⟩ = some (.int .i64 k) ∧ W'.cell? ⟨B, 1, none⟩ = some (.int .i64 f) ∧ W'.cell? ⟨B, 2, none⟩ = some (.int .i64 t) ∧ W'.cell? ⟨B, 3, none⟩ = some (.int .i64 d) ∧ W'.cell? ⟨B, 4, none⟩ = some (.int .i64 n) ∧ W'.cell? ⟨B, 5, none⟩ = some (.bool y))) (by kernel_rfl) (HC2.out _ ACC.out.keep.drew) (fun hHeld => ?_)
        refine wpAnyH_take (i := 0) (oi := ?o0) (v := ?v0) ?hi0 (by kernel_rfl) (by kernel_rfl) (by kernel_rfl) (fun _ _ _ h => h) (Or.inl ⟨?w0, ?y0⟩) (by assumption) ?r0
        case hi0 => (simp only [List.getElem?_toArray, List.getElem?_cons_zero]; try rfl)
        case w0 => rfl
        case y0 => (intro w hSw; (try dsimp only at hSw); go_simp; (try with_reducible rfl))
        (try simp only [Act.put, List.setIfInBounds_toArray, List.set_cons_zero, List.set_cons_succ])
        refine wpAnyH_take (i := 1) (oi := ?o1) (v := ?v1) ?hi1 (by kernel_rfl) (by kernel_rfl) (by kernel_rfl) (fun _ _ _ h => h) (Or.inl ⟨?w1, ?y1⟩) (by assumption) ?r1
        case hi1 => (simp only [List.getElem?_toArray, List.getElem?_cons_succ, List.getElem?_cons_zero]; try rfl)
        case w1 => rfl
        case y1 => (intro w hSw; (try dsimp only at hSw); go_simp; (try with_reducible rfl))
        (try simp only [Act.put, List.setIfInBounds_toArray, List.set_cons_zero, List.set_cons_succ])
        refine wpAnyH_take (i := 2) (oi := ?o2) (v := ?v2) ?hi2 (by kernel_rfl) (by kernel_rfl) (by kernel_rfl) (fun _ _ _ h => h) (Or.inl ⟨?w2, ?y2⟩) (by assumption) ?r2
        case hi2 => (simp only [List.getElem?_toArray, List.getElem?_cons_succ, List.getElem?_cons_zero]; try rfl)
        case w2 => rfl
        case y2 => (intro w hSw; (try dsimp only at hSw); go_simp; (try with_reducible rfl))
        (try simp only [Act.put, List.setIfInBounds_toArray, List.set_cons_zero, List.set_cons_succ])
        refine wpAnyH_take (i := 5) (oi := ?o5) (v := ?v5) ?hi5 (by kernel_rfl) (by kernel_rfl) (by kernel_rfl) (fun _ _ _ h => h) (Or.inl ⟨?w5, ?y5⟩) (by assumption) ?r5
        case hi5 => (simp only [List.getElem?_toArray, List.getElem?_cons_succ, List.getElem?_cons_zero]; try rfl)
        case w5 => rfl
        case y5 => (intro w hSw; (try dsimp only at hSw); go_simp; (try with_reducible rfl))
        (try simp only [Act.put, List.setIfInBounds_toArray, List.set_cons_zero, List.set_cons_succ])
        refine wpAnyH_take (i := 6) (oi := ?o6) (v := ?v6) ?hi6 (by kernel_rfl) (by kernel_rfl) (by kernel_rfl) (fun _ _ _ h => h) (Or.inl ⟨?w6, ?y6⟩) (by assumption) ?r6
        case hi6 => (simp only [List.getElem?_toArray, List.getElem?_cons_succ, List.getElem?_cons_zero]; try rfl)
        case w6 => rfl
        case y6 => (intro w hSw; (try dsimp only at hSw); go_simp; (try with_reducible rfl))
        (try simp only [Act.put, List.setIfInBounds_toArray, List.set_cons_zero, List.set_cons_succ])
        refine wpAnyH_take (i := 9) (oi := ?o9) (v := ?v9) ?hi9 (by kernel_rfl) (by kernel_rfl) (by kernel_rfl) (fun _ _ _ h => h) (Or.inl ⟨?w9, ?y9⟩) (by assumption) ?r9
        case hi9 => (simp only [List.getElem?_toArray, List.getElem?_cons_succ, List.getElem?_cons_zero]; try rfl)
        case w9 => rfl
        case y9 => (intro w hSw; (try dsimp only at hSw); go_simp; (try with_reducible rfl))
        (try simp only [Act.put, List.setIfInBounds_toArray, List.set_cons_zero, List.set_cons_succ])
        refine wpAnyH_take (i := 10) (oi := ?o10) (v := ?v10) ?hi10 (by kernel_rfl) (by kernel_rfl) (by kernel_rfl) (fun _ _ _ h => h) (Or.inl ⟨?w10, ?y10⟩) (by assumption) ?r10
        case hi10 => (simp only [List.getElem?_toArray, List.getElem?_cons_succ, List.getElem?_cons_zero]; try rfl)
        case w10 => rfl
        case y10 => (intro w hSw; (try dsimp only at hSw); go_simp; (try with_reducible rfl))
        (try simp only [Act.put, List.setIfInBounds_toArray, List.set_cons_zero, List.set_cons_succ])
        refine wpAnyH_ready (rs := [3]) (by kernel_rfl) (by simp) ?_
        refine AllReadyH.cons (o := ?o3) ?hi3 (fun K hK => ?_) AllReadyH.nil
        case hi3 => (simp only [List.getElem?_toArray, List.getElem?_cons_succ, List.getElem?_cons_zero]; try rfl)
        go_simp
        (go_at_call 42; refine (refLong_any _ _).mono ?_; rintro e Wr3 ⟨vr3, rfl, hor3, hkr3, hfr3⟩; have Ar3 := Lib.hid (ACC.out.still hkr3.of_drew); have Or3 := Lib.hid (And.intro hor3 (apart_new ACC.out.own hfr3)); clear hor3 hkr3 hfr3)
        go_wp2_with fail
        refine hK.out _ _ (HC2.out _ Ar3.out.keep) (fun hHeld => ?_)
        clear hK K
        (try simp only [Act.put, List.setIfInBounds_toArray, List.set_cons_zero, List.set_cons_succ])
        refine wpAnyH_ready (rs := [4]) (by kernel_rfl) (by simp) ?_
        refine AllReadyH.cons (o := ?o4) ?hi4 (fun K hK => ?_) AllReadyH.nil
        case hi4 => (simp only [List.getElem?_toArray, List.getElem?_cons_succ, List.getElem?_cons_zero]; try rfl)
        refine step_app 24 24 5 (.int .u8 0) 1 1 Tryz.underlying24 infoU8 rfl (by decide) (by decide) rfl rfl rfl rfl (Ar3.out.row (HL6.out)) (own_srcN Or3.out.1 (longB_length d) Tryz.underlying24) (by omega) ?_
        intro aor34 cpr34 Wr34 hownr34 hgrr34 hfrr34
        have Ar34 := Lib.hid (Ar3.out.app hownr34 (HL6.out).symm (longB_length d).symm rfl hgrr34 hfrr34)
        clear hownr34 hgrr34 hfrr34
        refine hK.out _ _ (HC2.out _ Ar34.out.keep) (fun hHeld => ?_)
        clear hK K
        (try simp only [Act.put, List.setIfInBounds_toArray, List.set_cons_zero, List.set_cons_succ])
        refine wpAnyH_ready (rs := [7]) (by kernel_rfl) (by simp) ?_
        refine AllReadyH.cons (o := ?o7) ?hi7 (fun K hK => ?_) AllReadyH.nil
        case hi7 => (simp only [List.getElem?_toArray, List.getElem?_cons_succ, List.getElem?_cons_zero]; try rfl)
        go_simp
        (go_at_call 41; refine (refSmall_any _ _).mono ?_; rintro e Wr347 ⟨vr347, rfl, hor347, hkr347, hfr347⟩; have Ar347 := Lib.hid (Ar34.out.still hkr347); have Or347 := Lib.hid (And.intro hor347 (apart_new Ar34.out.own hfr347)); clear hor347 hkr347 hfr347)
        go_wp2_with fail
        refine hK.out _ _ (HC2.out _ Ar347.out.keep) (fun hHeld => ?_)
        clear hK K
        (try simp only [Act.put, List.setIfInBounds_toArray, List.set_cons_zero, List.set_cons_succ])
        refine wpAnyH_ready (rs := [8]) (by kernel_rfl) (by simp) ?_
        refine AllReadyH.cons (o := ?o8) ?hi8 (fun K hK => ?_) AllReadyH.nil
        case hi8 => (simp only [List.getElem?_toArray, List.getElem?_cons_succ, List.getElem?_cons_zero]; try rfl)
        refine step_app 24 24 5 (.int .u8 0) 1 1 Tryz.underlying24 infoU8 rfl (by decide) (by decide) rfl rfl rfl rfl (Ar347.out.row (len_app (HL6.out) (longB_length d))) (own_srcN Or347.out.1 (smallB_length n) Tryz.underlying24) (by omega) ?_
        intro aor3478 cpr3478 Wr3478 hownr3478 hgrr3478 hfrr3478
        have Ar3478 := Lib.hid (Ar347.out.app hownr3478 (len_app (HL6.out) (longB_length d)).symm (smallB_length n).symm rfl hgrr3478 hfrr3478)
        clear hownr3478 hgrr3478 hfrr3478
        refine hK.out _ _ (HC2.out _ Ar3478.out.keep) (fun hHeld => ?_)
        clear hK K
        (try simp only [Act.put, List.setIfInBounds_toArray, List.set_cons_zero, List.set_cons_succ])
        refine wpAnyH_ready (rs := [11]) (by kernel_rfl) (by simp) ?_
        refine AllReadyH.cons (o := ?o11) ?hi11 (fun K hK => ?_) AllReadyH.nil
        case hi11 => (simp only [List.getElem?_toArray, List.getElem?_cons_succ, List.getElem?_cons_zero]; try rfl)
        go_simp
        (go_at_call 43; refine (refTruth_any _ _).mono ?_; rintro e Wr347811 ⟨vr347811, rfl, hor347811, hkr347811, hfr347811⟩; have Ar347811 := Lib.hid (Ar3478.out.still hkr347811); have Or347811 := Lib.hid (And.intro hor347811 (apart_new Ar3478.out.own hfr347811)); clear hor347811 hkr347811 hfr347811)
        go_wp2_with fail
        refine hK.out _ _ (HC2.out _ Ar347811.out.keep) (fun hHeld => ?_)
        clear hK K
        (try simp only [Act.put, List.setIfInBounds_toArray, List.set_cons_zero, List.set_cons_succ])
        refine wpAnyH_ready (rs := [12]) (by kernel_rfl) (by simp) ?_
        refine AllReadyH.cons (o := ?o12) ?hi12 (fun K hK => ?_) AllReadyH.nil
        case hi12 => (simp only [List.getElem?_toArray, List.getElem?_cons_succ, List.getElem?_cons_zero]; try rfl)
        refine step_app 24 24 5 (.int .u8 0) 1 1 Tryz.underlying24 infoU8 rfl (by decide) (by decide) rfl rfl rfl rfl (Ar347811.out.row (len_app (len_app (HL6.out) (longB_length d)) (smallB_length n))) (own_srcN Or347811.out.1 (truthB_length y) Tryz.underlying24) (by omega) ?_
        intro aor34781112 cpr34781112 Wr34781112 hownr34781112 hgrr34781112 hfrr34781112
        have Ar34781112 := Lib.hid (Ar347811.out.app hownr34781112 (len_app (len_app (HL6.out) (longB_length d)) (smallB_length n)).symm (truthB_length y).symm rfl hgrr34781112 hfrr34781112)
        clear hownr34781112 hgrr34781112 hfrr34781112
        refine hK.out _ _ (HC2.out _ Ar34781112.out.keep) (fun hHeld => ?_)
        clear hK K
        (try simp only [Act.put, List.setIfInBounds_toArray, List.set_cons_zero, List.set_cons_succ])
        refine wpAnyH_take (i := 13) (oi := ?o13) (v := ?v13) ?hi13 (by kernel_rfl) (by kernel_rfl) (by kernel_rfl) (fun _ _ _ h => h) (Or.inl ⟨?w13, ?y13⟩) (by assumption) ?r13
        case hi13 => (simp only [List.getElem?_toArray, List.getElem?_cons_succ, List.getElem?_cons_zero]; try rfl)
        case w13 => rfl
        case y13 => (intro w hSw; (try dsimp only at hSw); go_simp; (try with_reducible rfl))
        (try simp only [Act.put, List.setIfInBounds_toArray, List.set_cons_zero, List.set_cons_succ])
        refine wpAnyH_done (by kernel_rfl) ?_ _
        refine NoPanic.normal ?_
        go_wp2_with fail
        go_meet
        exact Ar34781112.out
      case rest =>
        rw [HP.out] at hcut
        have hln := pkB_length ⟨k, f, t, d, n, y⟩
        obtain ⟨ao, cp, hv, hsl, hbo⟩ := hcut.own.slb
        rw [hln] at hv
        subst hv
        have HS := Lib.hid (refsum_any ao cp _ wc hsl (by rw [hln]; omega))
        rw [hln] at HS
        have HA9 := Lib.hid hcut
        have hcl := crcOf_lt (pkB ⟨k, f, t, d, n, y⟩)
        obtain ⟨c, hc⟩ : ∃ c, crcOf (pkB ⟨k, f, t, d, n, y⟩) = c := ⟨_, rfl⟩
        rw [hc] at hcl HS
        have HCR := Lib.hid hc
        have HLN := Lib.hid hln
        obtain ⟨W9, rfl⟩ : ∃ W, W = wc := ⟨_, rfl⟩
        clear hcut hsl hbo hc hln HP ACC HA HL6
        go_wp2_with fail
        refine HS.out.mono ?_
        rintro e w8 ⟨rfl, hk8⟩
        have A8 := Lib.hid (HA9.out.still hk8)
        clear hk8
        have hc0 : 0 ≤ (c : Int) := by omega
        have hc1 : (c : Int) < 4294967296 := by omega
        have hlit := OwnB.lit w8 (smallB c ++ smallB ((c : Int) / 65536)) #[.int .u8 ((c : Int) % 256), .int .u8 ((c : Int) / 256 % 256), .int .u8 ((c : Int) / 65536 % 256), .int .u8 ((c : Int) / 16777216)] 4 rfl (by decide) (by
          rw [bvs_append, smallB_vals, smallB_vals]
          simp
          omega)
        have hll : (smallB c ++ smallB ((c : Int) / 65536)).length = 4 := by rw [List.length_append, smallB_length, smallB_length]
        have hsrc := own_srcN (P := Tryz.prog) hlit hll Tryz.underlying24
        have A8b := Lib.hid (A8.out.still (keep_alloc w8 (.cells #[.int .u8 ((c : Int) % 256), .int .u8 ((c : Int) / 256 % 256), .int .u8 ((c : Int) / 65536 % 256), .int .u8 ((c : Int) / 16777216)] 5 (0, 0))))
        have HLL := Lib.hid hll
        have hrow := A8b.out.row HLN.out
        clear hlit hll
        go_wp2_with (at_builtin; refine wpList_app 24 24 5 (.int .u8 0) 1 1 Tryz.underlying24 infoU8 rfl (by decide) (by decide) rfl rfl rfl rfl hrow hsrc (by omega) ?_)
        intro ao9 cp9 w9 hown9 hgr9 hfr9
        have A9 := Lib.hid (A8b.out.app hown9 HLN.out.symm HLL.out.symm rfl hgr9 (by rw [size_alloc]; exact hfr9))
        clear hown9 hgr9 hfr9 hrow hsrc
        go_wp2_with fail
        go_ret
        have hK := KA.out.trans' (KC.out.trans' A9.out.keep)
        refine ⟨_, rfl, ?_, hK, fun j hj => Nat.le_trans (Nat.le_trans KA.out.size KC.out.size) (A9.out.new j hj)⟩
        have he : wireB ⟨k, f, t, d, n, y⟩ = pkB ⟨k, f, t, d, n, y⟩ ++ (smallB c ++ smallB ((c : Int) / 65536)) := by rw [HWB.out, sealB, HCR.out, List.append_assoc]
        rw [he]
        exact A9.out.own
end Go.Proofs.YtlabhbjampkhpaaGreat
end

section
open Go Go.RowKit Go.Maps Go.Sort Go.Shelf
namespace Go.Proofs.YtlabhbjampkhpaaGreat
def p0 : PackV := ⟨1, 1, 2, 4294967297, 3, false⟩
theorem p0_good : GoodP p0 := ⟨by unfold p0 PackV.Ok In64; decide, by decide⟩
theorem zero_bad : packB PackV.zero = false := by decide
theorem ins0 : insP p0 [] = [p0] := rfl
theorem ins1 : insP p0 [p0] = [p0, p0] := by simp [insP]
theorem b6_any (w : World) : Calls Tryz.prog 27 #[] w fun e w' => e = .returned (.bool true) ∧ Keep NoF w w' := by
  go_enter Tryz.func27, Tryz.ntmps27
  go_wp2_with fail
  refine (begun6_any w).mono ?_
  rintro e w1 ⟨rfl, hk⟩
  have K := Lib.hid hk
  clear hk
  go_wp2_with fail
  go_ret
  exact ⟨rfl, K.out⟩
theorem b8_any (w : World) : Calls Tryz.prog 28 #[] w fun e w' => e = .returned (.bool true) ∧ Keep NoF w w' := by
  go_enter Tryz.func28, Tryz.ntmps28
  go_wp2_with fail
  refine (begun8_any w).mono ?_
  rintro e w1 ⟨rfl, hk⟩
  have K := Lib.hid hk
  clear hk
  go_wp2_with fail
  go_ret
  exact ⟨rfl, K.out⟩
theorem send0 (w : World) (F : Nat → Prop) (nb : Nat) (h : NetW w F nb []) :
    Calls Tryz.prog 21 #[.pointer (some ⟨nb, 0, none⟩), .agg #[.int .i64 1, .int .i64 1, .int .i64 2, .int .i64 4294967297, .int .i64 3, .bool false]] w fun e w' => e = .returned (.bool true) ∧ NetW w' (Wid F w w') nb [p0] ∧ Keep F w w' := by
  have h1 := send_any F nb p0 [] w h p0_good.1
  unfold SendPost at h1
  have e : sentB p0 [] = true := by decide
  rw [show sendP p0 [] = [p0] by unfold sendP; rw [e]; rfl, e] at h1
  exact h1
theorem send1 (w : World) (F : Nat → Prop) (nb : Nat) (h : NetW w F nb [p0]) :
    Calls Tryz.prog 21 #[.pointer (some ⟨nb, 0, none⟩), .agg #[.int .i64 1, .int .i64 1, .int .i64 2, .int .i64 4294967297, .int .i64 3, .bool false]] w fun e w' => e = .returned (.bool true) ∧ NetW w' (Wid F w w') nb [p0, p0] ∧ Keep F w w' := by
  have h1 := send_any F nb p0 [p0] w h p0_good.1
  unfold SendPost at h1
  have e : sentB p0 [p0] = true := by decide
  rw [show sendP p0 [p0] = [p0, p0] by unfold sendP; rw [e, if_pos rfl, ins1], e] at h1
  exact h1
theorem take1 (w : World) (F : Nat → Prop) (nb : Nat) (h : NetW w F nb [p0, p0]) :
    Calls Tryz.prog 25 #[.pointer (some ⟨nb, 0, none⟩), .int .i64 1] w fun e w' => e = .returned (.tuple #[.agg #[.int .i64 1, .int .i64 1, .int .i64 2, .int .i64 4294967297, .int .i64 3, .bool false], .bool true]) ∧ NetW w' (Wid F w w') nb [p0] ∧ Keep F w w' := take_any F nb [p0, p0] 1 w h (by decide)
theorem twice0 (w : World) (F : Nat → Prop) (nb : Nat) (h : NetW w F nb [p0]) :
    Calls Tryz.prog 23 #[.pointer (some ⟨nb, 0, none⟩), .int .i64 0] w fun e w' => e = .returned (.bool true) ∧ NetW w' (Wid F w w') nb [p0, p0] ∧ Keep F w w' := by
  have h1 := twice_any F nb [p0] 0 w h (by decide)
  unfold TwicePost at h1
  have e : twiceB [p0] 0 = true := by decide
  rw [show twiceP [p0] 0 = [p0, p0] by unfold twiceP; rw [e, if_pos rfl]; exact ins1, e] at h1
  exact h1
theorem send_zero (w : World) (F : Nat → Prop) (nb : Nat) (ps : List PackV) (h : NetW w F nb ps) :
    Calls Tryz.prog 21 #[.pointer (some ⟨nb, 0, none⟩), .agg #[.int .i64 0, .int .i64 0, .int .i64 0, .int .i64 0, .int .i64 0, .bool false]] w fun e w' => e = .returned (.bool false) ∧ Keep F w w' := by
  refine (send_any F nb PackV.zero ps w h zero_ok).mono ?_
  rintro e w' ⟨rfl, _, hk⟩
  exact ⟨by unfold sentB; rw [zero_bad]; rfl, hk⟩
set_option maxHeartbeats 8000000 in
set_option maxRecDepth 20000 in
theorem begun15_any (w : World) : Calls Tryz.prog 13 #[] w fun e w' => e = .returned (.bool true) ∧ Keep NoF w w' := by
  have HE : Hid (∀ W, Calls Tryz.prog 15 #[.agg #[.int .i64 1, .int .i64 1, .int .i64 2, .int .i64 4294967297, .int .i64 3, .bool false]] W fun e w' => ∃ v, e = .returned v ∧ OwnB w' v (wireB p0) ∧ Keep NoF W w' ∧ ∀ k, v.ownBlock = some k → W.heap.size ≤ k) := Lib.hid fun W => wenc_ok p0 W p0_good.1 p0_good.2
  have HEZ : Hid (∀ W, Calls Tryz.prog 15 #[.agg #[.int .i64 0, .int .i64 0, .int .i64 0, .int .i64 0, .int .i64 0, .bool false]] W fun e w' => e = .returned (.slice none 0 0) ∧ Keep NoF W w') := Lib.hid fun W => wenc_bad PackV.zero W zero_ok zero_bad
  have hwl := wireB_length p0
  have hdw := dec_wire p0 p0_good.1 p0_good.2
  obtain ⟨A, hA⟩ : ∃ A, wireB p0 = A := ⟨_, rfl⟩
  rw [hA] at HE hwl hdw
  have HWL := Lib.hid hwl; have HDW := Lib.hid hdw
  have heqz := fun W => eqSl none 0 0 W
  simp only [Option.isNone_none] at heqz
  clear hA hwl hdw
  go_enter Tryz.func13, Tryz.ntmps13
  obtain ⟨B, hhB⟩ : ∃ B, w.heap.size = B := ⟨_, rfl⟩
  go_upto_region 2 with fail
  have hrB := heap_new w (.cells #[.int .i64 1, .int .i64 1, .int .i64 2, .int .i64 4294967297, .int .i64 3, .bool false] 23 (0, 0))
  have hkB := keep_alloc w (.cells #[.int .i64 1, .int .i64 1, .int .i64 2, .int .i64 4294967297, .int .i64 3, .bool false] 23 (0, 0))
  have hsB : (w.alloc (.cells #[.int .i64 1, .int .i64 1, .int .i64 2, .int .i64 4294967297, .int .i64 3, .bool false] 23 (0, 0))).heap.size = w.heap.size + 1 := size_alloc _ _
  show Code.wp _ _ _ _ (w.alloc (.cells #[.int .i64 1, .int .i64 1, .int .i64 2, .int .i64 4294967297, .int .i64 3, .bool false] 23 (0, 0)))
  rw [hhB] at hrB hsB
  generalize w.alloc (.cells #[.int .i64 1, .int .i64 1, .int .i64 2, .int .i64 4294967297, .int .i64 3, .bool false] 23 (0, 0)) = W1 at hrB hkB hsB ⊢
  (try rw [hhB])
  have HCB : Hid (∀ W : World, W.heap[B]? = W1.heap[B]? → W.cell? ⟨B, 0, none⟩ = some (.int .i64 1) ∧ W.cell? ⟨B, 1, none⟩ = some (.int .i64 1) ∧ W.cell? ⟨B, 2, none⟩ = some (.int .i64 2) ∧ W.cell? ⟨B, 3, none⟩ = some (.int .i64 4294967297) ∧ W.cell? ⟨B, 4, none⟩ = some (.int .i64 3) ∧ W.cell? ⟨B, 5, none⟩ = some (.bool false)) := Lib.hid fun W hW => by
    have e := hW.trans hrB
    refine ⟨?_, ?_, ?_, ?_, ?_, ?_⟩
    all_goals (rw [cell_of_heap e]; rfl)
  have HKB := Lib.hid hkB; have HLB : Hid (B < W1.heap.size ∧ w.heap.size = B) := Lib.hid ⟨by omega, hhB⟩
  clear hrB hkB hsB hhB
  obtain ⟨d0, d1, d2, d3, d4, d5⟩ := HCB.out W1 rfl
  go_wp2_with fail
  refine (HE.out W1).mono ?_
  rintro e w2 ⟨v, rfl, hv, hk2, _⟩
  obtain ⟨ao, cp, rfl, hsl, hbo⟩ := hv.slb
  have HD : Hid (Calls Tryz.prog 18 #[.slice ao 21 cp] w2 fun e w' => e = .returned (.tuple #[.agg #[.int .i64 1, .int .i64 1, .int .i64 2, .int .i64 4294967297, .int .i64 3, .bool false], .int .i64 0]) ∧ Keep NoF w2 w') := by
    refine Lib.hid ?_
    have h := wdec_at ao 21 cp A w2 hsl HWL.out (fun g hg => by
      have := hv.lt g (by rw [← hbo]; exact hg)
      exact this)
    unfold WDecPost at h
    rw [HDW.out.1, HDW.out.2] at h
    exact h
  rw [HWL.out]
  have K2 := Lib.hid hk2
  clear hv hk2 hsl hbo d0 d1 d2 d3 d4 d5
  go_wp2_with fail
  refine HD.out.mono ?_
  rintro e w3 ⟨rfl, hk3⟩
  have K3 := Lib.hid (K2.out.trans' hk3)
  clear hk3 HD
  obtain ⟨C, hhC⟩ : ∃ C, w3.heap.size = C := ⟨_, rfl⟩
  go_upto_region 4 with fail
  have hrC := heap_new w3 (.cells #[.int .i64 1, .int .i64 1, .int .i64 2, .int .i64 4294967297, .int .i64 3, .bool false] 23 (0, 0))
  have hkC := keep_alloc w3 (.cells #[.int .i64 1, .int .i64 1, .int .i64 2, .int .i64 4294967297, .int .i64 3, .bool false] 23 (0, 0))
  have hsC : (w3.alloc (.cells #[.int .i64 1, .int .i64 1, .int .i64 2, .int .i64 4294967297, .int .i64 3, .bool false] 23 (0, 0))).heap.size = w3.heap.size + 1 := size_alloc _ _
  show Code.wp _ _ _ _ (w3.alloc (.cells #[.int .i64 1, .int .i64 1, .int .i64 2, .int .i64 4294967297, .int .i64 3, .bool false] 23 (0, 0)))
  rw [hhC] at hrC hsC
  generalize w3.alloc (.cells #[.int .i64 1, .int .i64 1, .int .i64 2, .int .i64 4294967297, .int .i64 3, .bool false] 23 (0, 0)) = W4 at hrC hkC hsC ⊢
  (try rw [hhC])
  have HCC : Hid (∀ W : World, W.heap[C]? = W4.heap[C]? → W.cell? ⟨C, 0, none⟩ = some (.int .i64 1) ∧ W.cell? ⟨C, 1, none⟩ = some (.int .i64 1) ∧ W.cell? ⟨C, 2, none⟩ = some (.int .i64 2) ∧ W.cell? ⟨C, 3, none⟩ = some (.int .i64 4294967297) ∧ W.cell? ⟨C, 4, none⟩ = some (.int .i64 3) ∧ W.cell? ⟨C, 5, none⟩ = some (.bool false)) := Lib.hid fun W hW => by
    have e := hW.trans hrC
    refine ⟨?_, ?_, ?_, ?_, ?_, ?_⟩
    all_goals (rw [cell_of_heap e]; rfl)
  have HKC := Lib.hid hkC; have HLC : Hid (C < W4.heap.size ∧ w3.heap.size = C) := Lib.hid ⟨by omega, hhC⟩
  clear hrC hkC hsC hhC
  have K4 := Lib.hid (K3.out.trans' HKC.out)
  go_wp2_with fail
  refine (netnew_any W4).mono ?_
  rintro e w5 ⟨nb, F, rfl, hN, hk5, hF5⟩
  have hFs : ∀ k, F k → k < w5.heap.size := by obtain ⟨b, v, l, h⟩ := hN; exact h.lt
  have HN5 := Lib.hid hN; have K5 := Lib.hid hk5; have HF5 := Lib.hid hF5; have HFS := Lib.hid hFs
  clear hN hk5 hF5 hFs
  go_upto_region 5 with fail
  have K15 := Lib.hid (K4.out.trans' K5.out)
  have hd5 := HCB.out w5.drew (K15.out.block B HLB.out.1 (fun f => f))
  refine wp_region_noPanic ?_
  refine wp_region_held_drew (S := (fun W' : World => W'.cell? ⟨B, 0, none⟩ = some (.int .i64 1) ∧ W'.cell? ⟨B, 1, none⟩ = some (.int .i64 1) ∧ W'.cell? ⟨B, 2, none⟩ = some (.int .i64 2) ∧ W'.cell? ⟨B, 3, none⟩ = some (.int .i64 4294967297) ∧ W'.cell? ⟨B, 4, none⟩ = some (.int .i64 3) ∧ W'.cell? ⟨B, 5, none⟩ = some (.bool false))) (by kernel_rfl) (hd5) (fun hHeld => ?_)
  refine wpAnyH_take (i := 0) (oi := ?o0) (v := ?v0) ?hi0 (by kernel_rfl) (by kernel_rfl) (by kernel_rfl) (fun _ _ _ h => h) (Or.inl ⟨?w0, ?y0⟩) (by assumption) ?r0
  case hi0 => (simp only [List.getElem?_toArray, List.getElem?_cons_zero]; try rfl)
  case w0 => rfl
  case y0 => (intro w hSw; (try dsimp only at hSw); go_simp; (try with_reducible rfl))
  (try simp only [Act.put, List.setIfInBounds_toArray, List.set_cons_zero, List.set_cons_succ])
  refine wpAnyH_take (i := 1) (oi := ?o1) (v := ?v1) ?hi1 (by kernel_rfl) (by kernel_rfl) (by kernel_rfl) (fun _ _ _ h => h) (Or.inl ⟨?w1, ?y1⟩) (by assumption) ?r1
  case hi1 => (simp only [List.getElem?_toArray, List.getElem?_cons_succ, List.getElem?_cons_zero]; try rfl)
  case w1 => rfl
  case y1 => (intro w hSw; (try dsimp only at hSw); go_simp; (try with_reducible rfl))
  (try simp only [Act.put, List.setIfInBounds_toArray, List.set_cons_zero, List.set_cons_succ])
  refine wpAnyH_take (i := 3) (oi := ?o3) (v := ?v3) ?hi3 (by kernel_rfl) (by kernel_rfl) (by kernel_rfl) (fun _ _ _ h => h) (Or.inl ⟨?w3, ?y3⟩) (by assumption) ?r3
  case hi3 => (simp only [List.getElem?_toArray, List.getElem?_cons_succ, List.getElem?_cons_zero]; try rfl)
  case w3 => rfl
  case y3 => (intro w hSw; (try dsimp only at hSw); go_simp; (try with_reducible rfl))
  (try simp only [Act.put, List.setIfInBounds_toArray, List.set_cons_zero, List.set_cons_succ])
  refine wpAnyH_take (i := 4) (oi := ?o4) (v := ?v4) ?hi4 (by kernel_rfl) (by kernel_rfl) (by kernel_rfl) (fun _ _ _ h => h) (Or.inl ⟨?w4, ?y4⟩) (by assumption) ?r4
  case hi4 => (simp only [List.getElem?_toArray, List.getElem?_cons_succ, List.getElem?_cons_zero]; try rfl)
  case w4 => rfl
  case y4 => (intro w hSw; (try dsimp only at hSw); go_simp; (try with_reducible rfl))
  (try simp only [Act.put, List.setIfInBounds_toArray, List.set_cons_zero, List.set_cons_succ])
  refine wpAnyH_ready (rs := [2]) (by kernel_rfl) (by simp) ?_
  refine AllReadyH.cons (o := ?o2) ?hi2 (fun K hK => ?_) AllReadyH.nil
  case hi2 => (simp only [List.getElem?_toArray, List.getElem?_cons_succ, List.getElem?_cons_zero]; try rfl)
  go_simp
  (go_at_call 21; refine (send0 _ F nb (HN5.out.keep (Keep.refl NoF w5).drew (fun _ _ f => f))).mono ?_; rintro e w6 ⟨rfl, hN6, hk6⟩; have HN6 := Lib.hid hN6; have K6 : Hid (Keep F w5 w6) := Lib.hid hk6.of_drew; have K16 : Hid (Keep NoF W4 w6) := Lib.hid (K5.out.trans K6.out (fun _ _ f => f) (fun k hk f => by have := HF5.out k f; omega)); clear hN6 hk6)
  go_wp2_with fail
  refine hK.out _ _ (HCB.out _ ((K4.out.trans' K16.out).block B HLB.out.1 (fun f => f))) (fun hHeld => ?_)
  clear hK K
  (try simp only [Act.put, List.setIfInBounds_toArray, List.set_cons_zero, List.set_cons_succ])
  refine wpAnyH_ready (rs := [5]) (by kernel_rfl) (by simp) ?_
  refine AllReadyH.cons (o := ?o5) ?hi5 (fun K hK => ?_) AllReadyH.nil
  case hi5 => (simp only [List.getElem?_toArray, List.getElem?_cons_succ, List.getElem?_cons_zero]; try rfl)
  go_simp
  (go_at_call 21; refine (send1 w6 _ nb HN6.out).mono ?_; rintro e w7 ⟨rfl, hN7, hk7⟩; have HN7 := Lib.hid hN7; have K7 := Lib.hid hk7; have K17 : Hid (Keep NoF W4 w7) := Lib.hid (K16.out.trans K7.out (fun _ _ f => f) (fun k hk f => f.elim (fun f => by have := HF5.out k f; omega) (fun f => by have e1 : w5.drew.heap.size = w5.heap.size := rfl; have := K5.out.size; omega))); clear hN7 hk7)
  go_wp2_with fail
  refine hK.out _ _ (HCB.out _ ((K4.out.trans' K17.out).block B HLB.out.1 (fun f => f))) (fun hHeld => ?_)
  clear hK K
  (try simp only [Act.put, List.setIfInBounds_toArray, List.set_cons_zero, List.set_cons_succ])
  refine wpAnyH_take (i := 6) (oi := ?o6) (v := ?v6) ?hi6 (by kernel_rfl) (by kernel_rfl) (by kernel_rfl) (fun _ _ _ h => h) (Or.inl ⟨?w6, ?y6⟩) (by assumption) ?r6
  case hi6 => (simp only [List.getElem?_toArray, List.getElem?_cons_succ, List.getElem?_cons_zero]; try rfl)
  case w6 => rfl
  case y6 => (intro w hSw; (try dsimp only at hSw); go_simp; (try with_reducible rfl))
  (try simp only [Act.put, List.setIfInBounds_toArray, List.set_cons_zero, List.set_cons_succ])
  refine wpAnyH_take (i := 7) (oi := ?o7) (v := ?v7) ?hi7 (by kernel_rfl) (by kernel_rfl) (by kernel_rfl) (fun _ _ _ h => h) (Or.inl ⟨?w7, ?y7⟩) (by assumption) ?r7
  case hi7 => (simp only [List.getElem?_toArray, List.getElem?_cons_succ, List.getElem?_cons_zero]; try rfl)
  case w7 => rfl
  case y7 => (intro w hSw; (try dsimp only at hSw); go_simp; (try with_reducible rfl))
  (try simp only [Act.put, List.setIfInBounds_toArray, List.set_cons_zero, List.set_cons_succ])
  refine wpAnyH_done (by kernel_rfl) ?_ _
  refine NoPanic.normal ?_
  generalize hG : Wid (Wid F w5.drew w6) w6 w7 = G at HN7
  have hGl : ∀ k, G k → W4.heap.size ≤ k ∧ k < w7.heap.size := fun k hk => by
    obtain ⟨b, v, l, h⟩ := HN7.out
    refine ⟨?_, h.lt k hk⟩
    rw [← hG] at hk
    have e1 : w5.drew.heap.size = w5.heap.size := rfl
    have := K5.out.size; have := K6.out.size
    rcases hk with (f | f) | f
    · exact HF5.out k f
    · omega
    · omega
  have HG := Lib.hid hGl
  clear hGl hG
  clear hd5
  go_wp2_with fail
  refine (take1 w7 G nb HN7.out).mono ?_
  rintro e w8 ⟨rfl, hN8, hk8⟩
  have HN8 := Lib.hid hN8; have K8 := Lib.hid hk8
  have K18 : Hid (Keep NoF W4 w8) := Lib.hid (K17.out.trans hk8 (fun _ _ f => f) (fun k hk f => by have := (HG.out k f).1; omega))
  clear hN8 hk8
  obtain ⟨D, hhD⟩ : ∃ D, w8.heap.size = D := ⟨_, rfl⟩
  go_upto_region 7 with fail
  have hrD := heap_new w8 (.cells #[.int .i64 1, .int .i64 1, .int .i64 2, .int .i64 4294967297, .int .i64 3, .bool false] 23 (0, 0))
  have hkD := keep_alloc w8 (.cells #[.int .i64 1, .int .i64 1, .int .i64 2, .int .i64 4294967297, .int .i64 3, .bool false] 23 (0, 0))
  have hsD : (w8.alloc (.cells #[.int .i64 1, .int .i64 1, .int .i64 2, .int .i64 4294967297, .int .i64 3, .bool false] 23 (0, 0))).heap.size = w8.heap.size + 1 := size_alloc _ _
  show Code.wp _ _ _ _ (w8.alloc (.cells #[.int .i64 1, .int .i64 1, .int .i64 2, .int .i64 4294967297, .int .i64 3, .bool false] 23 (0, 0)))
  rw [hhD] at hrD hsD
  generalize w8.alloc (.cells #[.int .i64 1, .int .i64 1, .int .i64 2, .int .i64 4294967297, .int .i64 3, .bool false] 23 (0, 0)) = W9 at hrD hkD hsD ⊢
  (try rw [hhD])
  have HCD : Hid (∀ W : World, W.heap[D]? = W9.heap[D]? → W.cell? ⟨D, 0, none⟩ = some (.int .i64 1) ∧ W.cell? ⟨D, 1, none⟩ = some (.int .i64 1) ∧ W.cell? ⟨D, 2, none⟩ = some (.int .i64 2) ∧ W.cell? ⟨D, 3, none⟩ = some (.int .i64 4294967297) ∧ W.cell? ⟨D, 4, none⟩ = some (.int .i64 3) ∧ W.cell? ⟨D, 5, none⟩ = some (.bool false)) := Lib.hid fun W hW => by
    have e := hW.trans hrD
    refine ⟨?_, ?_, ?_, ?_, ?_, ?_⟩
    all_goals (rw [cell_of_heap e]; rfl)
  have HKD := Lib.hid hkD; have HLD : Hid (D < W9.heap.size ∧ w8.heap.size = D) := Lib.hid ⟨by omega, hhD⟩
  clear hrD hkD hsD hhD
  have hWl : ∀ k, Wid G w7 w8 k → W4.heap.size ≤ k ∧ k < D := fun k hk => by
    have := K17.out.size; have := K8.out.size; have := HLD.out.2
    rcases hk with f | f
    · have := HG.out k f; omega
    · omega
  have HWL2 := Lib.hid hWl
  clear hWl
  have K19 := Lib.hid (K18.out.trans' HKD.out)
  have HN9 := Lib.hid (HN8.out.keep HKD.out (fun _ _ f => f))
  have HBL := HLB.out.1; have HCL := HLC.out.1; have HDL := HLD.out.1
  have HLs := Lib.hid (And.intro HBL (And.intro HCL HDL))
  clear HBL HCL HDL
  go_wp2_with fail
  refine (b6_any W9).mono ?_
  rintro e w10 ⟨rfl, hk10⟩
  have K10 := Lib.hid hk10; clear hk10
  go_wp2_with fail
  refine (b8_any w10).mono ?_
  rintro e w11 ⟨rfl, hk11⟩
  have K11 := Lib.hid (K10.out.trans' hk11); clear hk11
  have K111 := Lib.hid (K19.out.trans' K11.out)
  have q0 := HCB.out w11 ((K4.out.trans' K111.out).block B HLs.out.1 (fun f => f))
  have q1 := HCC.out w11 (K111.out.block C HLs.out.2.1 (fun f => f))
  have HN11 := Lib.hid (HN9.out.keep K11.out (fun _ _ f => f))
  obtain ⟨b0, b1, b2, b3, b4, b5⟩ := q0
  obtain ⟨c0, c1, c2, c3, c4, c5⟩ := q1
  go_wp2_with fail
  refine (HEZ.out w11).mono ?_
  rintro e w12 ⟨rfl, hk12⟩
  have K12 := Lib.hid (K11.out.trans' hk12); clear hk12
  have K112 := Lib.hid (K19.out.trans' K12.out)
  have HN12 := Lib.hid (HN9.out.keep K12.out (fun _ _ f => f))
  clear b0 b1 b2 b3 b4 b5 c0 c1 c2 c3 c4 c5
  have q0 := HCB.out w12 ((K4.out.trans' K112.out).block B HLs.out.1 (fun f => f))
  have q1 := HCD.out w12 (K12.out.block D HLs.out.2.2 (fun f => f))
  obtain ⟨b0, b1, b2, b3, b4, b5⟩ := q0
  obtain ⟨c0, c1, c2, c3, c4, c5⟩ := q1
  have heqz2 := heqz w12
  go_wp2_with fail
  refine (netlen_any _ nb [p0] w12 HN12.out).mono ?_
  rintro e w' ⟨rfl, hw⟩
  obtain rfl : w12 = w' := hw.symm
  clear b0 b1 b2 b3 b4 b5 c0 c1 c2 c3 c4 c5 heqz2
  rw [show (([p0] : List PackV).length : Int) = 1 from rfl]
  go_wp2_with fail
  refine (twice0 w12 _ nb HN12.out).mono ?_
  rintro e w13 ⟨rfl, hN13, hk13⟩
  have HN13 := Lib.hid hN13; have K13 := Lib.hid hk13
  clear hN13 hk13
  go_wp2_with fail
  refine (netlen_any _ nb [p0, p0] w13 HN13.out).mono ?_
  rintro e w' ⟨rfl, hw⟩
  obtain rfl : w13 = w' := hw.symm
  rw [show (([p0, p0] : List PackV).length : Int) = 2 from rfl]
  go_wp2_with fail
  refine (send_zero w13 _ nb _ HN13.out).mono ?_
  rintro e w14 ⟨rfl, hk14⟩
  have K14 := Lib.hid hk14; clear hk14
  go_wp2_with fail
  go_ret
  have s0 := K112.out.size; have s1 := K13.out.size; have s2 := K4.out.size; have s3 := HKB.out.size; have s4 := K12.out.size; have s5 := HLD.out.1
  have k1 := (HKB.out.trans' K4.out).trans' K112.out
  refine ⟨rfl, (k1.trans K13.out (fun _ _ f => f) (fun k hk f => ?_)).trans K14.out (fun _ _ f => f) (fun k hk f => ?_)⟩
  · have := (HWL2.out k f).1; omega
  · rcases f with f | f
    · have := (HWL2.out k f).1; omega
    · omega
end Go.Proofs.YtlabhbjampkhpaaGreat
end

section
open Go Go.RowKit
namespace Go.Proofs.YtlabhbjampkhpaaGreat
open Go.ChangeShapes Go.WideShapes Go.ChangeAt Go.Deep

theorem list6 {α : Type} {l : List α} (h : l.length = 6) : ∃ a b c d e f, l = [a, b, c, d, e, f] := by
  match l, h with
  | [a, b, c, d, e, f], _ => exact ⟨a, b, c, d, e, f, rfl⟩

theorem open6 {P : Program} {H : Type} {enc : TypeId × Value → H} {W : World} {r : Reach} {b0 : Nat} {sp : Nat → Bool} {hd : Bool} {t : TypeId} {f0 f1 f2 f3 f4 f5 : Field} {v : Value} {d : DataW H} {p : List MemPlace}
    (hs : P.underlying t = some (.struct #[f0, f1, f2, f3, f4, f5])) (hone : oneCellFields P #[f0, f1, f2, f3, f4, f5] = true) (hC : P.cellsOf t = 6)
    (hv : Value.okWide P W r b0 t v) (h : DataW.Trod enc P W 0 sp hd t v d p) :
    ∃ v0 v1 v2 v3 v4 v5 n y0 y1 y2 y3 y4 y5, v = .agg #[v0, v1, v2, v3, v4, v5] ∧
      DataW.trod enc P W 0 sp hd n f0.type [v0] = some y0 ∧ DataW.trod enc P W 0 sp hd n f1.type [v1] = some y1 ∧ DataW.trod enc P W 0 sp hd n f2.type [v2] = some y2 ∧
      DataW.trod enc P W 0 sp hd n f3.type [v3] = some y3 ∧ DataW.trod enc P W 0 sp hd n f4.type [v4] = some y4 ∧ DataW.trod enc P W 0 sp hd n f5.type [v5] = some y5 := by
  obtain ⟨cs, rfl, hsz⟩ := okWide_struct hs hv
  obtain ⟨fuel, hf⟩ := h
  obtain ⟨xs, n, _, _, hl, hlen, hfl⟩ := DataW.trod_struct hs hf
  obtain ⟨l⟩ := cs
  obtain ⟨c0, c1, c2, c3, c4, c5, rfl⟩ := list6 (l := l) (by rw [← hC, ← hsz]; rfl)
  obtain ⟨y0, y1, y2, y3, y4, y5, rfl⟩ := list6 (l := xs) hlen
  obtain ⟨o0, k0⟩ := Deep.hone_of hone 0 f0 rfl
  obtain ⟨o1, k1⟩ := Deep.hone_of hone 1 f1 rfl
  obtain ⟨o2, k2⟩ := Deep.hone_of hone 2 f2 rfl
  obtain ⟨o3, k3⟩ := Deep.hone_of hone 3 f3 rfl
  obtain ⟨o4, k4⟩ := Deep.hone_of hone 4 f4 rfl
  obtain ⟨o5, k5⟩ := Deep.hone_of hone 5 f5 rfl
  refine ⟨c0, c1, c2, c3, c4, c5, n, y0, y1, y2, y3, y4, y5, rfl, ?_, ?_, ?_, ?_, ?_, ?_⟩
  · simpa [Value.cells, o0, k0] using hfl 0 f0 rfl
  · simpa [Value.cells, o1, k1] using hfl 1 f1 rfl
  · simpa [Value.cells, o2, k2] using hfl 2 f2 rfl
  · simpa [Value.cells, o3, k3] using hfl 3 f3 rfl
  · simpa [Value.cells, o4, k4] using hfl 4 f4 rfl
  · simpa [Value.cells, o5, k5] using hfl 5 f5 rfl

set_option maxRecDepth 40000 in
theorem open_packet {H : Type} {enc : TypeId × Value → H} {W : World} {r : Reach} {b0 : Nat} {v : Value} {d : DataW H} {p : List MemPlace}
    (hv : Value.okWide Tryz.prog W r b0 23 v) (h : DataW.Trod enc Tryz.prog W 0 (fun _ => true) true 23 v d p) : ∃ z : PackV, v = packVal z ∧ z.Ok := by
  obtain ⟨v0, v1, v2, v3, v4, v5, n, y0, y1, y2, y3, y4, y5, rfl, h0, h1, h2, h3, h4, h5⟩ := open6 Tryz.underlying23 (by kernel_rfl) (by kernel_rfl) hv h
  obtain ⟨n0, e0, _, w0⟩ := DataW.trod_int Tryz.underlying3 h0
  obtain ⟨n1, e1, _, w1⟩ := DataW.trod_int Tryz.underlying3 h1
  obtain ⟨n2, e2, _, w2⟩ := DataW.trod_int Tryz.underlying3 h2
  obtain ⟨n3, e3, _, w3⟩ := DataW.trod_int Tryz.underlying2 h3
  obtain ⟨n4, e4, _, w4⟩ := DataW.trod_int Tryz.underlying3 h4
  obtain ⟨b, e5, _⟩ := DataW.trod_bool Tryz.underlying4 h5
  simp at e0 e1 e2 e3 e4 e5
  subst e0 e1 e2 e3 e4 e5
  exact ⟨⟨n0, n1, n2, n3, n4, b⟩, rfl, bounds_i64 w0, bounds_i64 w1, bounds_i64 w2, bounds_i64 w3, bounds_i64 w4⟩

end Go.Proofs.YtlabhbjampkhpaaGreat
end
