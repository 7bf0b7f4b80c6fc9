/- WireUnlike: the law returns true and changes nothing that was there. No conditions. -/
import Derived.Test.YtlabhbjampkhpaaGreatKit15
import Derived.Deep.CutBlock
import Derived.Test.YtlabhbjampkhpaaGreatRows
import Derived.WalkKit
import Derived.ProofKit
import Derived.OpenShut
import Derived.ShutString
import Derived.ChangeOld
import Derived.Below
namespace Go.Proofs.YtlabhbjampkhpaaGreat.wireUnlike
open Go Go.ChangeShapes Go.WideShapes Go.ChangeAt Go.RowKit
open Go.ChangeMaps (open_string shut_string)

theorem own : ownKnob Tryz.prog.godebug = none := by kernel_rfl
theorem laidOut : laidOutB Tryz.prog = true := by kernel_rfl

open Go.Proofs Go.RowKit
set_option maxRecDepth 40000 in
theorem open_arg0 {H : Type} {enc : TypeId × Value → H} {r : Reach} {b0 : Nat} {v : Value} {d : DataW H} {p : List MemPlace} (W : World) (_base : Nat)
    (hv : Value.okWide Tryz.prog W r b0 23 v) (h : DataW.Trod enc Tryz.prog W 0 (fun _ => true) true 23 v d p) : ∃ z : PackV, v = packVal z ∧ z.Ok := open_packet hv h
theorem tmod_bounds (a m : Int) (hm : 0 < m) : -m < a.tmod m ∧ a.tmod m < m := by
  by_cases h : 0 ≤ a
  · rw [Int.tmod_eq_emod_of_nonneg h]
    have := Int.emod_nonneg a (b := m) (by omega)
    have := Int.emod_lt_of_pos a hm
    omega
  · have e : a = -(-a) := by omega
    rw [e, Int.neg_tmod, Int.tmod_eq_emod_of_nonneg (by omega)]
    have := Int.emod_nonneg (-a) (b := m) (by omega)
    have := Int.emod_lt_of_pos (-a) hm
    omega
theorem tmod_pos (a m : Int) (ha : 0 ≤ a) (hm : 0 < m) : 0 ≤ a.tmod m ∧ a.tmod m < m := by
  rw [Int.tmod_eq_emod_of_nonneg ha]
  exact ⟨Int.emod_nonneg a (by omega), Int.emod_lt_of_pos a hm⟩
theorem neSl (a : Option Addr) (n cp : Nat) (w : World) : (binOp .neq 24 (.slice a n cp) (.slice none 0 0)).run Tryz.prog w = .ok (.bool (!a.isNone)) w := run_neq_slice_nil_any w 24 5 a n cp 0 0 Tryz.underlying24
theorem own_some {w : World} {v : Value} {l : List UInt8} {n : Nat} (h : OwnB w v l) (hn : l.length = n) (h0 : 0 < n) : ∃ g cp, v = .slice (some ⟨g, 0, none⟩) n cp ∧ SlB w (some ⟨g, 0, none⟩) cp l ∧ g < w.heap.size := by
  subst hn
  have hs := h.slb
  rcases h.2 with ⟨rfl, e⟩ | ⟨g, cap, cur, rfl, _⟩
  · omega
  · obtain ⟨ao, cp, e, hsl, _⟩ := hs
    injection e with e1 e2 e3
    subst e1
    subst e3
    exact ⟨g, cap, rfl, hsl, h.lt g rfl⟩
theorem cmp_wire {p q : PackV} (hp : GoodP p) (hq : GoodP q) : ((bstr (wireB p)).toList == (bstr (wireB q)).toList) = eqP p q := by
  rw [Bool.eq_iff_iff, str_eq, eqP_iff]
  constructor
  · intro h; exact encP_inj hp hq h
  · intro h; rw [h]
theorem ifs_eq {α : Type} (p q : PackV) (a b : α) : (if p.kind = q.kind then if p.from_ = q.from_ then if p.to = q.to then if p.tid = q.tid then if p.n = q.n then if p.yes = q.yes then a else b else b else b else b else b else b) = if eqP p q = true then a else b := by
  unfold eqP
  by_cases h0 : p.kind = q.kind
  · by_cases h1 : p.from_ = q.from_
    · by_cases h2 : p.to = q.to
      · by_cases h3 : p.tid = q.tid
        · by_cases h4 : p.n = q.n
          · by_cases h5 : p.yes = q.yes
            · simp [h0, h1, h2, h3, h4, h5]
            · simp [h0, h1, h2, h3, h4, h5]
          · simp [h0, h1, h2, h3, h4]
        · simp [h0, h1, h2, h3]
      · simp [h0, h1, h2]
    · simp [h0, h1]
  · simp [h0]
set_option maxHeartbeats 16000000 in
set_option maxRecDepth 8000 in
theorem walk (w : World) (p : PackV) (hp : p.Ok) (which : Int) (hw : (Lit.int .i64 which).wf = true) (x : Int) (hx : (Lit.int .i64 x).wf = true) :
    Calls Tryz.prog 12 #[packVal p, .int .i64 which, .int .i64 x] w fun e w' => e = .returned (.bool true) ∧ Keep NoF w w' := by
  have bx := bounds_i64 hx
  have HX : Hid (In64 x) := bx
  have bw := bounds_i64 hw
  have HOK := Lib.hid hp
  obtain ⟨k, f, t, d, n, y⟩ := p
  unfold packVal
  simp only
  obtain ⟨r, hr⟩ : ∃ r, which.tmod 4 = r := ⟨_, rfl⟩
  have hrb := tmod_bounds which 4 (by omega)
  rw [hr] at hrb
  obtain ⟨z, hz⟩ : ∃ z, (r + 4).tmod 4 = z := ⟨_, rfl⟩
  have hzb := tmod_pos (r + 4) 4 (by omega) (by omega)
  rw [hz] at hzb
  clear hx hw hp
  go_enter Tryz.func12, Tryz.ntmps12
  obtain ⟨B, hhB⟩ : ∃ B, w.heap.size = B := ⟨_, rfl⟩
  go_upto_region 1 with fail
  have hrB := heap_new w (.cells #[.int .i64 k, .int .i64 f, .int .i64 t, .int .i64 d, .int .i64 n, .bool y] 23 (0, 0))
  have hkB := keep_alloc w (.cells #[.int .i64 k, .int .i64 f, .int .i64 t, .int .i64 d, .int .i64 n, .bool y] 23 (0, 0))
  have hsB : (w.alloc (.cells #[.int .i64 k, .int .i64 f, .int .i64 t, .int .i64 d, .int .i64 n, .bool y] 23 (0, 0))).heap.size = w.heap.size + 1 := size_alloc _ _
  show Code.wp _ _ _ _ (w.alloc (.cells #[.int .i64 k, .int .i64 f, .int .i64 t, .int .i64 d, .int .i64 n, .bool y] 23 (0, 0)))
  rw [hhB] at hrB hsB
  generalize w.alloc (.cells #[.int .i64 k, .int .i64 f, .int .i64 t, .int .i64 d, .int .i64 n, .bool y] 23 (0, 0)) = W1 at hrB hkB hsB ⊢
  (try rw [hhB])
  have HCB : Hid (∀ W : World, W.heap[B]? = W1.heap[B]? → W.cell? ⟨B, 0, none⟩ = some (.int .i64 k) ∧ W.cell? ⟨B, 1, none⟩ = some (.int .i64 f) ∧ W.cell? ⟨B, 2, none⟩ = some (.int .i64 t) ∧ W.cell? ⟨B, 3, none⟩ = some (.int .i64 d) ∧ W.cell? ⟨B, 4, none⟩ = some (.int .i64 n) ∧ W.cell? ⟨B, 5, none⟩ = some (.bool y)) := Lib.hid fun W hW => by
    have e := hW.trans hrB
    refine ⟨?_, ?_, ?_, ?_, ?_, ?_⟩
    all_goals (rw [cell_of_heap e]; rfl)
  have HKB := Lib.hid hkB; have HRB := Lib.hid hrB; have HLB : Hid (B < W1.heap.size ∧ w.heap.size = B) := Lib.hid ⟨by omega, hhB⟩
  clear hrB hkB hsB hhB
  go_wp2_with fail
  refine (begun15_any W1).mono ?_
  rintro e w1 ⟨rfl, hk1⟩
  have K1 := Lib.hid hk1
  obtain ⟨d0, d1, d2, d3, d4, d5⟩ := HCB.out w1 (K1.out.block B HLB.out.1 (fun f => f))
  clear hk1
  obtain ⟨C, hhC⟩ : ∃ C, w1.heap.size = C := ⟨_, rfl⟩
  go_upto_region 5 with fail
  have hrC := heap_new w1 (.cells #[.int .i64 k, .int .i64 f, .int .i64 t, .int .i64 d, .int .i64 n, .bool y] 23 (0, 0))
  have hkC := keep_alloc w1 (.cells #[.int .i64 k, .int .i64 f, .int .i64 t, .int .i64 d, .int .i64 n, .bool y] 23 (0, 0))
  have hsC : (w1.alloc (.cells #[.int .i64 k, .int .i64 f, .int .i64 t, .int .i64 d, .int .i64 n, .bool y] 23 (0, 0))).heap.size = w1.heap.size + 1 := size_alloc _ _
  show Code.wp _ _ _ _ (w1.alloc (.cells #[.int .i64 k, .int .i64 f, .int .i64 t, .int .i64 d, .int .i64 n, .bool y] 23 (0, 0)))
  rw [hhC] at hrC hsC
  generalize w1.alloc (.cells #[.int .i64 k, .int .i64 f, .int .i64 t, .int .i64 d, .int .i64 n, .bool y] 23 (0, 0)) = W2 at hrC hkC hsC ⊢
  (try rw [hhC])
  have HCC : Hid (∀ W : World, W.heap[C]? = W2.heap[C]? → W.cell? ⟨C, 0, none⟩ = some (.int .i64 k) ∧ W.cell? ⟨C, 1, none⟩ = some (.int .i64 f) ∧ W.cell? ⟨C, 2, none⟩ = some (.int .i64 t) ∧ W.cell? ⟨C, 3, none⟩ = some (.int .i64 d) ∧ W.cell? ⟨C, 4, none⟩ = some (.int .i64 n) ∧ W.cell? ⟨C, 5, none⟩ = some (.bool y)) := Lib.hid fun W hW => by
    have e := hW.trans hrC
    refine ⟨?_, ?_, ?_, ?_, ?_, ?_⟩
    all_goals (rw [cell_of_heap e]; rfl)
  have HKC := Lib.hid hkC; have HRC := Lib.hid hrC; have HLC : Hid (C < W2.heap.size ∧ w1.heap.size = C) := Lib.hid ⟨by omega, hhC⟩
  clear hrC hkC hsC hhC
  have HBC : Hid (B < C) := Lib.hid (by have := HLC.out.2; have := HLB.out.1; have := K1.out.size; omega)
  clear d0 d1 d2 d3 d4 d5
  obtain ⟨d0, d1, d2, d3, d4, d5⟩ := HCB.out W2 ((K1.out.trans' HKC.out).block B HLB.out.1 (fun f => f))
  obtain ⟨c0, c1, c2, c3, c4, c5⟩ := HCC.out W2 rfl
  have y0 := free_of_heap HRC.out 0
  have y1 := free_of_heap HRC.out 1
  have y2 := free_of_heap HRC.out 2
  have y3 := free_of_heap HRC.out 3
  have y4 := free_of_heap HRC.out 4
  have y5 := free_of_heap HRC.out 5
  go_upto_block 0 with fail
  go_cut [] from 19 to 64 (fun wx => ∃ (qk qf qt qd qn : Int) (qy : Bool), (⟨qk, qf, qt, qd, qn, qy⟩ : PackV).Ok ∧ wx.heap[C]? = some (.cells #[.int .i64 qk, .int .i64 qf, .int .i64 qt, .int .i64 qd, .int .i64 qn, .bool qy] 23 (0, 0)) ∧ Keep (fun j => j = C) W2 wx)
  case first =>
    obtain ⟨ok, of, ot, od, on⟩ := HOK.out
    have hC0 := HRC.out
    have hzz : z = 0 ∨ z = 1 ∨ z = 2 ∨ z = 3 := by omega
    rcases hzz with rfl | rfl | rfl | rfl
    · go_wp2_with fail
      go_meet
      exact ⟨k, f, t, x, n, y, ⟨ok, of, ot, HX.out, on⟩, set1 hC0 (j := 3) (.int .i64 x), (Keep.refl (fun j => j = C) W2).setCell (p := ⟨C, 3, none⟩) (fun _ => rfl) _⟩
    · go_wp2_with fail
      go_meet
      exact ⟨k, x, t, d, n, y, ⟨ok, HX.out, ot, od, on⟩, set1 hC0 (j := 1) (.int .i64 x), (Keep.refl (fun j => j = C) W2).setCell (p := ⟨C, 1, none⟩) (fun _ => rfl) _⟩
    · go_wp2_with fail
      go_meet
      exact ⟨k, f, x, d, n, y, ⟨ok, of, HX.out, od, on⟩, set1 hC0 (j := 2) (.int .i64 x), (Keep.refl (fun j => j = C) W2).setCell (p := ⟨C, 2, none⟩) (fun _ => rfl) _⟩
    · go_upto_region 6 with fail
      go_region
      all_goals
        go_wp2_with fail
        go_meet
        exact ⟨2, f, t, d, 0, !y, ⟨(show In64 2 by unfold In64; decide), of, ot, od, (show In64 0 by unfold In64; decide)⟩, set1 (set1 (set1 hC0 (j := 0) (.int .i64 2)) (j := 4) (.int .i64 0)) (j := 5) (.bool !y), (((Keep.refl (fun j => j = C) W2).setCell (p := ⟨C, 0, none⟩) (fun _ => rfl) _).setCell (p := ⟨C, 4, none⟩) (fun _ => rfl) _).setCell (p := ⟨C, 5, none⟩) (fun _ => rfl) _ |>.drew⟩
  case rest =>
    obtain ⟨qk, qf, qt, qd, qn, qy, hok2, hrow, hkc⟩ := hcut
    clear d0 d1 d2 d3 d4 d5 c0 c1 c2 c3 c4 c5 y0 y1 y2 y3 y4 y5
    have HOK2 := Lib.hid hok2
    have HRQ := Lib.hid hrow
    obtain ⟨W3, rfl⟩ : ∃ W, W = wc := ⟨_, rfl⟩
    have hbr : W3.heap[B]? = some (.cells #[.int .i64 k, .int .i64 f, .int .i64 t, .int .i64 d, .int .i64 n, .bool y] 23 (0, 0)) := by
      rw [hkc.block B (Nat.lt_of_lt_of_le HLB.out.1 (K1.out.trans' HKC.out).size) (fun e => by have := HBC.out; omega), (K1.out.trans' HKC.out).block B HLB.out.1 (fun f => f)]; exact HRB.out
    have HRP := Lib.hid hbr
    have K3 : Hid (Keep NoF w W3) := Lib.hid (((HKB.out.trans' K1.out).trans' HKC.out).trans hkc (fun _ _ f => f) (fun i hi e => by have := HLC.out.2; have := (HKB.out.trans' K1.out).size; omega))
    clear hok2 hrow hkc hbr HCB HCC HRB HRC HKB HKC HLB HLC HBC K1 hz hr hrb hzb bx bw
    obtain ⟨P, hP⟩ : ∃ P : PackV, P = ⟨k, f, t, d, n, y⟩ := ⟨_, rfl⟩
    obtain ⟨Q, hQ⟩ : ∃ Q : PackV, Q = ⟨qk, qf, qt, qd, qn, qy⟩ := ⟨_, rfl⟩
    rw [← hP] at HOK
    rw [← hQ] at HOK2
    have HHP := Lib.hid hP; have HHQ := Lib.hid hQ
    have HPV : Hid (packVal P = .agg #[.int .i64 k, .int .i64 f, .int .i64 t, .int .i64 d, .int .i64 n, .bool y]) := by rw [HHP.out]; exact Lib.hid rfl
    have HQV : Hid (packVal Q = .agg #[.int .i64 qk, .int .i64 qf, .int .i64 qt, .int .i64 qd, .int .i64 qn, .bool qy]) := by rw [HHQ.out]; exact Lib.hid rfl
    have HRK : Hid (∀ W, Calls Tryz.prog 16 #[.agg #[.int .i64 qk, .int .i64 qf, .int .i64 qt, .int .i64 qd, .int .i64 qn, .bool qy]] W fun e w' => e = .returned (.bool (packB Q)) ∧ Keep NoF W w') := Lib.hid fun W => by rw [← HQV.out]; exact rpacket_any Q W HOK2.out
    clear hP hQ
    have HC : Hid (∀ W, Keep NoF W3 W → (W.cell? ⟨B, 0, none⟩ = some (.int .i64 k) ∧ W.cell? ⟨B, 1, none⟩ = some (.int .i64 f) ∧ W.cell? ⟨B, 2, none⟩ = some (.int .i64 t) ∧ W.cell? ⟨B, 3, none⟩ = some (.int .i64 d) ∧ W.cell? ⟨B, 4, none⟩ = some (.int .i64 n) ∧ W.cell? ⟨B, 5, none⟩ = some (.bool y)) ∧ (W.cell? ⟨C, 0, none⟩ = some (.int .i64 qk) ∧ W.cell? ⟨C, 1, none⟩ = some (.int .i64 qf) ∧ W.cell? ⟨C, 2, none⟩ = some (.int .i64 qt) ∧ W.cell? ⟨C, 3, none⟩ = some (.int .i64 qd) ∧ W.cell? ⟨C, 4, none⟩ = some (.int .i64 qn) ∧ W.cell? ⟨C, 5, none⟩ = some (.bool qy))) := Lib.hid fun W hW => by
      have e1 := (hW.block B (lt_of_heap HRP.out) (fun f => f)).trans HRP.out
      have e2 := (hW.block C (lt_of_heap HRQ.out) (fun f => f)).trans HRQ.out
      refine ⟨⟨?_, ?_, ?_, ?_, ?_, ?_⟩, ⟨?_, ?_, ?_, ?_, ?_, ?_⟩⟩
      all_goals (first | (rw [cell_of_heap e1]; rfl) | (rw [cell_of_heap e2]; rfl))
    have hk0 := HC.out W3.drew (Keep.refl NoF W3).drew
    rcases hbp : packB P with _ | _
    · have HPE := Lib.hid (fun W => wenc_bad P W HOK.out hbp)
      rw [HPV.out] at HPE
      rcases hbq : packB Q with _ | _
      · have HQE := Lib.hid (fun W => wenc_bad Q W HOK2.out hbq)
        rw [HQV.out] at HQE
        have hrk := HRK.out
        rw [hbq] at hrk
        have HRK2 := Lib.hid hrk
        clear hbq hrk
        go_upto_region 13 with fail
        refine wp_region_noPanic ?_
        refine wp_region_held_drew (S := (fun W' : World => (W'.cell? ⟨B, 0, none⟩ = some (.int .i64 k) ∧ W'.cell? ⟨B, 1, none⟩ = some (.int .i64 f) ∧ W'.cell? ⟨B, 2, none⟩ = some (.int .i64 t) ∧ W'.cell? ⟨B, 3, none⟩ = some (.int .i64 d) ∧ W'.cell? ⟨B, 4, none⟩ = some (.int .i64 n) ∧ W'.cell? ⟨B, 5, none⟩ = some (.bool y)) ∧ (W'.cell? ⟨C, 0, none⟩ = some (.int .i64 qk) ∧ W'.cell? ⟨C, 1, none⟩ = some (.int .i64 qf) ∧ W'.cell? ⟨C, 2, none⟩ = some (.int .i64 qt) ∧ W'.cell? ⟨C, 3, none⟩ = some (.int .i64 qd) ∧ W'.cell? ⟨C, 4, none⟩ = some (.int .i64 qn) ∧ W'.cell? ⟨C, 5, none⟩ = some (.bool qy)))) (by kernel_rfl) (hk0) (fun hHeld => ?_)
        refine wpAnyH_take (i := 0) (oi := ?oFF0) (v := ?vFF0) ?hiFF0 (by kernel_rfl) (by kernel_rfl) (by kernel_rfl) (fun _ _ _ h => h) (Or.inl ⟨?wFF0, ?yFF0⟩) (by assumption) ?rFF0
        case hiFF0 => (simp only [List.getElem?_toArray, List.getElem?_cons_zero]; try rfl)
        case wFF0 => rfl
        case yFF0 => (intro w hSw; (try dsimp only at hSw); go_simp; (try with_reducible rfl))
        (try simp only [Act.put, List.setIfInBounds_toArray, List.set_cons_zero, List.set_cons_succ])
        refine wpAnyH_take (i := 2) (oi := ?oFF2) (v := ?vFF2) ?hiFF2 (by kernel_rfl) (by kernel_rfl) (by kernel_rfl) (fun _ _ _ h => h) (Or.inl ⟨?wFF2, ?yFF2⟩) (by assumption) ?rFF2
        case hiFF2 => (simp only [List.getElem?_toArray, List.getElem?_cons_succ, List.getElem?_cons_zero]; try rfl)
        case wFF2 => rfl
        case yFF2 => (intro w hSw; (try dsimp only at hSw); go_simp; (try with_reducible rfl))
        (try simp only [Act.put, List.setIfInBounds_toArray, List.set_cons_zero, List.set_cons_succ])
        refine wpAnyH_ready (rs := [1]) (by kernel_rfl) (by simp) ?_
        refine AllReadyH.cons (o := ?oFF1) ?hiFF1 (fun K hK => ?_) AllReadyH.nil
        case hiFF1 => (simp only [List.getElem?_toArray, List.getElem?_cons_succ, List.getElem?_cons_zero]; try rfl)
        go_simp
        (go_at_call 15; refine (HPE.out _).mono ?_; rintro e wA ⟨rfl, hkwA⟩; have KwA : Hid (Keep NoF W3 wA) := Lib.hid (hkwA.of_drew); clear hkwA)
        go_wp2_with fail
        refine hK.out _ _ (HC.out _ KwA.out) (fun hHeld => ?_)
        clear hK K
        (try simp only [Act.put, List.setIfInBounds_toArray, List.set_cons_zero, List.set_cons_succ])
        refine wpAnyH_ready (rs := [3]) (by kernel_rfl) (by simp) ?_
        refine AllReadyH.cons (o := ?oFF3) ?hiFF3 (fun K hK => ?_) AllReadyH.nil
        case hiFF3 => (simp only [List.getElem?_toArray, List.getElem?_cons_succ, List.getElem?_cons_zero]; try rfl)
        go_simp
        (go_at_call 15; refine (HQE.out _).mono ?_; rintro e wB ⟨rfl, hkwB⟩; have KwB : Hid (Keep NoF W3 wB) := Lib.hid (KwA.out.trans' hkwB); clear hkwB)
        go_wp2_with fail
        refine hK.out _ _ (HC.out _ KwB.out) (fun hHeld => ?_)
        clear hK K
        (try simp only [Act.put, List.setIfInBounds_toArray, List.set_cons_zero, List.set_cons_succ])
        refine wpAnyH_take (i := 4) (oi := ?oFF4) (v := ?vFF4) ?hiFF4 (by kernel_rfl) (by kernel_rfl) (by kernel_rfl) (fun _ _ _ h => h) (Or.inl ⟨?wFF4, ?yFF4⟩) (by assumption) ?rFF4
        case hiFF4 => (simp only [List.getElem?_toArray, List.getElem?_cons_succ, List.getElem?_cons_zero]; try rfl)
        case wFF4 => rfl
        case yFF4 => (intro w hSw; (try dsimp only at hSw); go_simp; (try with_reducible rfl))
        (try simp only [Act.put, List.setIfInBounds_toArray, List.set_cons_zero, List.set_cons_succ])
        refine wpAnyH_take (i := 5) (oi := ?oFF5) (v := ?vFF5) ?hiFF5 (by kernel_rfl) (by kernel_rfl) (by kernel_rfl) (fun _ _ _ h => h) (Or.inl ⟨?wFF5, ?yFF5⟩) (by assumption) ?rFF5
        case hiFF5 => (simp only [List.getElem?_toArray, List.getElem?_cons_succ, List.getElem?_cons_zero]; try rfl)
        case wFF5 => rfl
        case yFF5 => (intro w hSw; (try dsimp only at hSw); go_simp; (try with_reducible rfl))
        (try simp only [Act.put, List.setIfInBounds_toArray, List.set_cons_zero, List.set_cons_succ])
        refine wpAnyH_done (by kernel_rfl) ?_ _
        refine NoPanic.normal ?_
        have e9 := fun W => eqSl none 0 0 W
        have e10 := fun W => eqSl none 0 0 W
        have n10 := fun W => neSl none 0 0 W
        simp only [Option.isNone_none] at e9
        simp only [Option.isNone_none] at e10
        simp only [Option.isNone_none, Bool.not_true] at n10
        have hv0 := HC.out wB.drew KwB.out.drew
        go_upto_region 14 with fail
        refine wp_region_noPanic ?_
        refine wp_region_held_drew (S := (fun W' : World => (W'.cell? ⟨B, 0, none⟩ = some (.int .i64 k) ∧ W'.cell? ⟨B, 1, none⟩ = some (.int .i64 f) ∧ W'.cell? ⟨B, 2, none⟩ = some (.int .i64 t) ∧ W'.cell? ⟨B, 3, none⟩ = some (.int .i64 d) ∧ W'.cell? ⟨B, 4, none⟩ = some (.int .i64 n) ∧ W'.cell? ⟨B, 5, none⟩ = some (.bool y)) ∧ (W'.cell? ⟨C, 0, none⟩ = some (.int .i64 qk) ∧ W'.cell? ⟨C, 1, none⟩ = some (.int .i64 qf) ∧ W'.cell? ⟨C, 2, none⟩ = some (.int .i64 qt) ∧ W'.cell? ⟨C, 3, none⟩ = some (.int .i64 qd) ∧ W'.cell? ⟨C, 4, none⟩ = some (.int .i64 qn) ∧ W'.cell? ⟨C, 5, none⟩ = some (.bool qy)))) (by kernel_rfl) (hv0) (fun hHeld => ?_)
        refine wpAnyH_take (i := 0) (oi := ?oFFr0) (v := ?vFFr0) ?hiFFr0 (by kernel_rfl) (by kernel_rfl) (by kernel_rfl) (fun _ _ _ h => h) (Or.inl ⟨?wFFr0, ?yFFr0⟩) (by assumption) ?rFFr0
        case hiFFr0 => (simp only [List.getElem?_toArray, List.getElem?_cons_zero]; try rfl)
        case wFFr0 => rfl
        case yFFr0 => (intro w hSw; (try dsimp only at hSw); go_simp; (try with_reducible rfl))
        (try simp only [Act.put, List.setIfInBounds_toArray, List.set_cons_zero, List.set_cons_succ])
        refine wpAnyH_take (i := 1) (oi := ?oFFr1) (v := ?vFFr1) ?hiFFr1 (by kernel_rfl) (by kernel_rfl) (by kernel_rfl) (fun _ _ _ h => h) (Or.inl ⟨?wFFr1, ?yFFr1⟩) (by assumption) ?rFFr1
        case hiFFr1 => (simp only [List.getElem?_toArray, List.getElem?_cons_succ, List.getElem?_cons_zero]; try rfl)
        case wFFr1 => rfl
        case yFFr1 => (intro w hSw; (try dsimp only at hSw); go_simp; (try with_reducible rfl))
        (try simp only [Act.put, List.setIfInBounds_toArray, List.set_cons_zero, List.set_cons_succ])
        refine wpAnyH_take (i := 2) (oi := ?oFFr2) (v := ?vFFr2) ?hiFFr2 (by kernel_rfl) (by kernel_rfl) (by kernel_rfl) (fun _ _ _ h => h) (Or.inl ⟨?wFFr2, ?yFFr2⟩) (by assumption) ?rFFr2
        case hiFFr2 => (simp only [List.getElem?_toArray, List.getElem?_cons_succ, List.getElem?_cons_zero]; try rfl)
        case wFFr2 => rfl
        case yFFr2 => (intro w hSw; (try dsimp only at hSw); go_simp; (try with_reducible rfl))
        (try simp only [Act.put, List.setIfInBounds_toArray, List.set_cons_zero, List.set_cons_succ])
        refine wpAnyH_ready (rs := [3]) (by kernel_rfl) (by simp) ?_
        refine AllReadyH.cons (o := ?oFFr3) ?hiFFr3 (fun K hK => ?_) AllReadyH.nil
        case hiFFr3 => (simp only [List.getElem?_toArray, List.getElem?_cons_succ, List.getElem?_cons_zero]; try rfl)
        go_simp
        (go_at_call 16; refine (HRK2.out _).mono ?_; rintro e wC ⟨rfl, hkC⟩; have KwC : Hid (Keep NoF wB wC) := Lib.hid hkC.of_drew; clear hkC)
        go_wp2_with fail
        refine hK.out _ _ (HC.out _ (KwB.out.trans' KwC.out)) (fun hHeld => ?_)
        clear hK K
        (try simp only [Act.put, List.setIfInBounds_toArray, List.set_cons_zero, List.set_cons_succ])
        refine wpAnyH_take (i := 4) (oi := ?oFFr4) (v := ?vFFr4) ?hiFFr4 (by kernel_rfl) (by kernel_rfl) (by kernel_rfl) (fun _ _ _ h => h) (Or.inl ⟨?wFFr4, ?yFFr4⟩) (by assumption) ?rFFr4
        case hiFFr4 => (simp only [List.getElem?_toArray, List.getElem?_cons_succ, List.getElem?_cons_zero]; try rfl)
        case wFFr4 => rfl
        case yFFr4 => (intro w hSw; (try dsimp only at hSw); go_simp; (try with_reducible rfl))
        (try simp only [Act.put, List.setIfInBounds_toArray, List.set_cons_zero, List.set_cons_succ])
        refine wpAnyH_take (i := 5) (oi := ?oFFr5) (v := ?vFFr5) ?hiFFr5 (by kernel_rfl) (by kernel_rfl) (by kernel_rfl) (fun _ _ _ h => h) (Or.inl ⟨?wFFr5, ?yFFr5⟩) (by assumption) ?rFFr5
        case hiFFr5 => (simp only [List.getElem?_toArray, List.getElem?_cons_succ, List.getElem?_cons_zero]; try rfl)
        case wFFr5 => rfl
        case yFFr5 => (intro w hSw; (try dsimp only at hSw); go_simp; (try with_reducible rfl))
        (try simp only [Act.put, List.setIfInBounds_toArray, List.set_cons_zero, List.set_cons_succ])
        refine wpAnyH_take (i := 6) (oi := ?oFFr6) (v := ?vFFr6) ?hiFFr6 (by kernel_rfl) (by kernel_rfl) (by kernel_rfl) (fun _ _ _ h => h) (Or.inl ⟨?wFFr6, ?yFFr6⟩) (by assumption) ?rFFr6
        case hiFFr6 => (simp only [List.getElem?_toArray, List.getElem?_cons_succ, List.getElem?_cons_zero]; try rfl)
        case wFFr6 => rfl
        case yFFr6 => (intro w hSw; (try dsimp only at hSw); go_simp; (try with_reducible rfl))
        (try simp only [Act.put, List.setIfInBounds_toArray, List.set_cons_zero, List.set_cons_succ])
        refine wpAnyH_take (i := 7) (oi := ?oFFr7) (v := ?vFFr7) ?hiFFr7 (by kernel_rfl) (by kernel_rfl) (by kernel_rfl) (fun _ _ _ h => h) (Or.inl ⟨?wFFr7, ?yFFr7⟩) (by assumption) ?rFFr7
        case hiFFr7 => (simp only [List.getElem?_toArray, List.getElem?_cons_succ, List.getElem?_cons_zero]; try rfl)
        case wFFr7 => rfl
        case yFFr7 => (intro w hSw; (try dsimp only at hSw); go_simp; (try with_reducible rfl))
        (try simp only [Act.put, List.setIfInBounds_toArray, List.set_cons_zero, List.set_cons_succ])
        refine wpAnyH_take (i := 8) (oi := ?oFFr8) (v := ?vFFr8) ?hiFFr8 (by kernel_rfl) (by kernel_rfl) (by kernel_rfl) (fun _ _ _ h => h) (Or.inl ⟨?wFFr8, ?yFFr8⟩) (by assumption) ?rFFr8
        case hiFFr8 => (simp only [List.getElem?_toArray, List.getElem?_cons_succ, List.getElem?_cons_zero]; try rfl)
        case wFFr8 => rfl
        case yFFr8 => (intro w hSw; (try dsimp only at hSw); go_simp; (try with_reducible rfl))
        (try simp only [Act.put, List.setIfInBounds_toArray, List.set_cons_zero, List.set_cons_succ])
        refine wpAnyH_take (i := 9) (oi := ?oFFr9) (v := undef) ?hiFFr9 (by kernel_rfl) (by kernel_rfl) (by kernel_rfl) (fun _ _ _ h => h) (Or.inr ⟨?wFFr9, rfl⟩) (by assumption) ?rFFr9
        case hiFFr9 => (simp only [List.getElem?_toArray, List.getElem?_cons_succ, List.getElem?_cons_zero]; try rfl)
        case wFFr9 => rfl
        (try simp only [Act.put, List.setIfInBounds_toArray, List.set_cons_zero, List.set_cons_succ])
        refine wpAnyH_take (i := 10) (oi := ?oFFr10) (v := undef) ?hiFFr10 (by kernel_rfl) (by kernel_rfl) (by kernel_rfl) (fun _ _ _ h => h) (Or.inr ⟨?wFFr10, rfl⟩) (by assumption) ?rFFr10
        case hiFFr10 => (simp only [List.getElem?_toArray, List.getElem?_cons_succ, List.getElem?_cons_zero]; try rfl)
        case wFFr10 => rfl
        (try simp only [Act.put, List.setIfInBounds_toArray, List.set_cons_zero, List.set_cons_succ])
        refine wpAnyH_take (i := 11) (oi := ?oFFr11) (v := ?vFFr11) ?hiFFr11 (by kernel_rfl) (by kernel_rfl) (by kernel_rfl) (fun _ _ _ h => h) (Or.inl ⟨?wFFr11, ?yFFr11⟩) (by assumption) ?rFFr11
        case hiFFr11 => (simp only [List.getElem?_toArray, List.getElem?_cons_succ, List.getElem?_cons_zero]; try rfl)
        case wFFr11 => rfl
        case yFFr11 => (intro w hSw; (try dsimp only at hSw); go_simp; (try with_reducible rfl))
        (try simp only [Act.put, List.setIfInBounds_toArray, List.set_cons_zero, List.set_cons_succ])
        refine wpAnyH_take (i := 12) (oi := ?oFFr12) (v := ?vFFr12) ?hiFFr12 (by kernel_rfl) (by kernel_rfl) (by kernel_rfl) (fun _ _ _ h => h) (Or.inl ⟨?wFFr12, ?yFFr12⟩) (by assumption) ?rFFr12
        case hiFFr12 => (simp only [List.getElem?_toArray, List.getElem?_cons_succ, List.getElem?_cons_zero]; try rfl)
        case wFFr12 => rfl
        case yFFr12 => (intro w hSw; (try dsimp only at hSw); go_simp; (try with_reducible rfl))
        (try simp only [Act.put, List.setIfInBounds_toArray, List.set_cons_zero, List.set_cons_succ])
        refine wpAnyH_take (i := 13) (oi := ?oFFr13) (v := undef) ?hiFFr13 (by kernel_rfl) (by kernel_rfl) (by kernel_rfl) (fun _ _ _ h => h) (Or.inr ⟨?wFFr13, rfl⟩) (by assumption) ?rFFr13
        case hiFFr13 => (simp only [List.getElem?_toArray, List.getElem?_cons_succ, List.getElem?_cons_zero]; try rfl)
        case wFFr13 => rfl
        (try simp only [Act.put, List.setIfInBounds_toArray, List.set_cons_zero, List.set_cons_succ])
        refine wpAnyH_take (i := 14) (oi := ?oFFr14) (v := undef) ?hiFFr14 (by kernel_rfl) (by kernel_rfl) (by kernel_rfl) (fun _ _ _ h => h) (Or.inr ⟨?wFFr14, rfl⟩) (by assumption) ?rFFr14
        case hiFFr14 => (simp only [List.getElem?_toArray, List.getElem?_cons_succ, List.getElem?_cons_zero]; try rfl)
        case wFFr14 => rfl
        (try simp only [Act.put, List.setIfInBounds_toArray, List.set_cons_zero, List.set_cons_succ])
        refine wpAnyH_take (i := 15) (oi := ?oFFr15) (v := undef) ?hiFFr15 (by kernel_rfl) (by kernel_rfl) (by kernel_rfl) (fun _ _ _ h => h) (Or.inr ⟨?wFFr15, rfl⟩) (by assumption) ?rFFr15
        case hiFFr15 => (simp only [List.getElem?_toArray, List.getElem?_cons_succ, List.getElem?_cons_zero]; try rfl)
        case wFFr15 => rfl
        (try simp only [Act.put, List.setIfInBounds_toArray, List.set_cons_zero, List.set_cons_succ])
        refine wpAnyH_take (i := 16) (oi := ?oFFr16) (v := undef) ?hiFFr16 (by kernel_rfl) (by kernel_rfl) (by kernel_rfl) (fun _ _ _ h => h) (Or.inr ⟨?wFFr16, rfl⟩) (by assumption) ?rFFr16
        case hiFFr16 => (simp only [List.getElem?_toArray, List.getElem?_cons_succ, List.getElem?_cons_zero]; try rfl)
        case wFFr16 => rfl
        (try simp only [Act.put, List.setIfInBounds_toArray, List.set_cons_zero, List.set_cons_succ])
        refine wpAnyH_take (i := 17) (oi := ?oFFr17) (v := undef) ?hiFFr17 (by kernel_rfl) (by kernel_rfl) (by kernel_rfl) (fun _ _ _ h => h) (Or.inr ⟨?wFFr17, rfl⟩) (by assumption) ?rFFr17
        case hiFFr17 => (simp only [List.getElem?_toArray, List.getElem?_cons_succ, List.getElem?_cons_zero]; try rfl)
        case wFFr17 => rfl
        (try simp only [Act.put, List.setIfInBounds_toArray, List.set_cons_zero, List.set_cons_succ])
        refine wpAnyH_take (i := 18) (oi := ?oFFr18) (v := undef) ?hiFFr18 (by kernel_rfl) (by kernel_rfl) (by kernel_rfl) (fun _ _ _ h => h) (Or.inr ⟨?wFFr18, rfl⟩) (by assumption) ?rFFr18
        case hiFFr18 => (simp only [List.getElem?_toArray, List.getElem?_cons_succ, List.getElem?_cons_zero]; try rfl)
        case wFFr18 => rfl
        (try simp only [Act.put, List.setIfInBounds_toArray, List.set_cons_zero, List.set_cons_succ])
        refine wpAnyH_take (i := 19) (oi := ?oFFr19) (v := undef) ?hiFFr19 (by kernel_rfl) (by kernel_rfl) (by kernel_rfl) (fun _ _ _ h => h) (Or.inr ⟨?wFFr19, rfl⟩) (by assumption) ?rFFr19
        case hiFFr19 => (simp only [List.getElem?_toArray, List.getElem?_cons_succ, List.getElem?_cons_zero]; try rfl)
        case wFFr19 => rfl
        (try simp only [Act.put, List.setIfInBounds_toArray, List.set_cons_zero, List.set_cons_succ])
        refine wpAnyH_take (i := 20) (oi := ?oFFr20) (v := undef) ?hiFFr20 (by kernel_rfl) (by kernel_rfl) (by kernel_rfl) (fun _ _ _ h => h) (Or.inr ⟨?wFFr20, rfl⟩) (by assumption) ?rFFr20
        case hiFFr20 => (simp only [List.getElem?_toArray, List.getElem?_cons_succ, List.getElem?_cons_zero]; try rfl)
        case wFFr20 => rfl
        (try simp only [Act.put, List.setIfInBounds_toArray, List.set_cons_zero, List.set_cons_succ])
        refine wpAnyH_take (i := 21) (oi := ?oFFr21) (v := undef) ?hiFFr21 (by kernel_rfl) (by kernel_rfl) (by kernel_rfl) (fun _ _ _ h => h) (Or.inr ⟨?wFFr21, rfl⟩) (by assumption) ?rFFr21
        case hiFFr21 => (simp only [List.getElem?_toArray, List.getElem?_cons_succ, List.getElem?_cons_zero]; try rfl)
        case wFFr21 => rfl
        (try simp only [Act.put, List.setIfInBounds_toArray, List.set_cons_zero, List.set_cons_succ])
        refine wpAnyH_take (i := 22) (oi := ?oFFr22) (v := ?vFFr22) ?hiFFr22 (by kernel_rfl) (by kernel_rfl) (by kernel_rfl) (fun _ _ _ h => h) (Or.inl ⟨?wFFr22, ?yFFr22⟩) (by assumption) ?rFFr22
        case hiFFr22 => (simp only [List.getElem?_toArray, List.getElem?_cons_succ, List.getElem?_cons_zero]; try rfl)
        case wFFr22 => rfl
        case yFFr22 => (intro w hSw; (try dsimp only at hSw); go_simp; (try with_reducible rfl))
        (try simp only [Act.put, List.setIfInBounds_toArray, List.set_cons_zero, List.set_cons_succ])
        refine wpAnyH_take (i := 23) (oi := ?oFFr23) (v := ?vFFr23) ?hiFFr23 (by kernel_rfl) (by kernel_rfl) (by kernel_rfl) (fun _ _ _ h => h) (Or.inl ⟨?wFFr23, ?yFFr23⟩) (by assumption) ?rFFr23
        case hiFFr23 => (simp only [List.getElem?_toArray, List.getElem?_cons_succ, List.getElem?_cons_zero]; try rfl)
        case wFFr23 => rfl
        case yFFr23 => (intro w hSw; (try dsimp only at hSw); go_simp; (try with_reducible rfl))
        (try simp only [Act.put, List.setIfInBounds_toArray, List.set_cons_zero, List.set_cons_succ])
        refine wpAnyH_take (i := 24) (oi := ?oFFr24) (v := ?vFFr24) ?hiFFr24 (by kernel_rfl) (by kernel_rfl) (by kernel_rfl) (fun _ _ _ h => h) (Or.inl ⟨?wFFr24, ?yFFr24⟩) (by assumption) ?rFFr24
        case hiFFr24 => (simp only [List.getElem?_toArray, List.getElem?_cons_succ, List.getElem?_cons_zero]; try rfl)
        case wFFr24 => rfl
        case yFFr24 => (intro w hSw; (try dsimp only at hSw); go_simp; (try with_reducible rfl))
        (try simp only [Act.put, List.setIfInBounds_toArray, List.set_cons_zero, List.set_cons_succ])
        refine wpAnyH_done (by kernel_rfl) ?_ _
        refine NoPanic.normal ?_
        go_wp2_with fail
        go_ret
        exact ⟨rfl, K3.out.trans' (KwB.out.trans' KwC.out)⟩
      · have HQE := Lib.hid (fun W => wenc_ok Q W HOK2.out hbq)
        rw [HQV.out] at HQE
        have hrk := HRK.out
        rw [hbq] at hrk
        have HRK2 := Lib.hid hrk
        obtain ⟨A2, hA2⟩ : ∃ A, wireB Q = A := ⟨_, rfl⟩
        have HQL : Hid (A2.length = 21) := Lib.hid (by rw [← hA2]; exact wireB_length Q)
        rw [hA2] at HQE
        have HA2 := Lib.hid hA2
        clear hA2
        clear hbq hrk
        go_upto_region 13 with fail
        refine wp_region_noPanic ?_
        refine wp_region_held_drew (S := (fun W' : World => (W'.cell? ⟨B, 0, none⟩ = some (.int .i64 k) ∧ W'.cell? ⟨B, 1, none⟩ = some (.int .i64 f) ∧ W'.cell? ⟨B, 2, none⟩ = some (.int .i64 t) ∧ W'.cell? ⟨B, 3, none⟩ = some (.int .i64 d) ∧ W'.cell? ⟨B, 4, none⟩ = some (.int .i64 n) ∧ W'.cell? ⟨B, 5, none⟩ = some (.bool y)) ∧ (W'.cell? ⟨C, 0, none⟩ = some (.int .i64 qk) ∧ W'.cell? ⟨C, 1, none⟩ = some (.int .i64 qf) ∧ W'.cell? ⟨C, 2, none⟩ = some (.int .i64 qt) ∧ W'.cell? ⟨C, 3, none⟩ = some (.int .i64 qd) ∧ W'.cell? ⟨C, 4, none⟩ = some (.int .i64 qn) ∧ W'.cell? ⟨C, 5, none⟩ = some (.bool qy)))) (by kernel_rfl) (hk0) (fun hHeld => ?_)
        refine wpAnyH_take (i := 0) (oi := ?oFT0) (v := ?vFT0) ?hiFT0 (by kernel_rfl) (by kernel_rfl) (by kernel_rfl) (fun _ _ _ h => h) (Or.inl ⟨?wFT0, ?yFT0⟩) (by assumption) ?rFT0
        case hiFT0 => (simp only [List.getElem?_toArray, List.getElem?_cons_zero]; try rfl)
        case wFT0 => rfl
        case yFT0 => (intro w hSw; (try dsimp only at hSw); go_simp; (try with_reducible rfl))
        (try simp only [Act.put, List.setIfInBounds_toArray, List.set_cons_zero, List.set_cons_succ])
        refine wpAnyH_take (i := 2) (oi := ?oFT2) (v := ?vFT2) ?hiFT2 (by kernel_rfl) (by kernel_rfl) (by kernel_rfl) (fun _ _ _ h => h) (Or.inl ⟨?wFT2, ?yFT2⟩) (by assumption) ?rFT2
        case hiFT2 => (simp only [List.getElem?_toArray, List.getElem?_cons_succ, List.getElem?_cons_zero]; try rfl)
        case wFT2 => rfl
        case yFT2 => (intro w hSw; (try dsimp only at hSw); go_simp; (try with_reducible rfl))
        (try simp only [Act.put, List.setIfInBounds_toArray, List.set_cons_zero, List.set_cons_succ])
        refine wpAnyH_ready (rs := [1]) (by kernel_rfl) (by simp) ?_
        refine AllReadyH.cons (o := ?oFT1) ?hiFT1 (fun K hK => ?_) AllReadyH.nil
        case hiFT1 => (simp only [List.getElem?_toArray, List.getElem?_cons_succ, List.getElem?_cons_zero]; try rfl)
        go_simp
        (go_at_call 15; refine (HPE.out _).mono ?_; rintro e wA ⟨rfl, hkwA⟩; have KwA : Hid (Keep NoF W3 wA) := Lib.hid (hkwA.of_drew); clear hkwA)
        go_wp2_with fail
        refine hK.out _ _ (HC.out _ KwA.out) (fun hHeld => ?_)
        clear hK K
        (try simp only [Act.put, List.setIfInBounds_toArray, List.set_cons_zero, List.set_cons_succ])
        refine wpAnyH_ready (rs := [3]) (by kernel_rfl) (by simp) ?_
        refine AllReadyH.cons (o := ?oFT3) ?hiFT3 (fun K hK => ?_) AllReadyH.nil
        case hiFT3 => (simp only [List.getElem?_toArray, List.getElem?_cons_succ, List.getElem?_cons_zero]; try rfl)
        go_simp
        (go_at_call 15; refine (HQE.out _).mono ?_; rintro e wB ⟨vwB, rfl, hvwB, hkwB, _⟩; have KwB : Hid (Keep NoF W3 wB) := Lib.hid (KwA.out.trans' hkwB); obtain ⟨gQ, cpQ, rfl, hsQ, _⟩ := own_some hvwB HQL.out (by decide); have HSQ := Lib.hid hsQ; clear hkwB hvwB hsQ)
        go_wp2_with fail
        refine hK.out _ _ (HC.out _ KwB.out) (fun hHeld => ?_)
        clear hK K
        (try simp only [Act.put, List.setIfInBounds_toArray, List.set_cons_zero, List.set_cons_succ])
        refine wpAnyH_take (i := 4) (oi := ?oFT4) (v := ?vFT4) ?hiFT4 (by kernel_rfl) (by kernel_rfl) (by kernel_rfl) (fun _ _ _ h => h) (Or.inl ⟨?wFT4, ?yFT4⟩) (by assumption) ?rFT4
        case hiFT4 => (simp only [List.getElem?_toArray, List.getElem?_cons_succ, List.getElem?_cons_zero]; try rfl)
        case wFT4 => rfl
        case yFT4 => (intro w hSw; (try dsimp only at hSw); go_simp; (try with_reducible rfl))
        (try simp only [Act.put, List.setIfInBounds_toArray, List.set_cons_zero, List.set_cons_succ])
        refine wpAnyH_take (i := 5) (oi := ?oFT5) (v := ?vFT5) ?hiFT5 (by kernel_rfl) (by kernel_rfl) (by kernel_rfl) (fun _ _ _ h => h) (Or.inl ⟨?wFT5, ?yFT5⟩) (by assumption) ?rFT5
        case hiFT5 => (simp only [List.getElem?_toArray, List.getElem?_cons_succ, List.getElem?_cons_zero]; try rfl)
        case wFT5 => rfl
        case yFT5 => (intro w hSw; (try dsimp only at hSw); go_simp; (try with_reducible rfl))
        (try simp only [Act.put, List.setIfInBounds_toArray, List.set_cons_zero, List.set_cons_succ])
        refine wpAnyH_done (by kernel_rfl) ?_ _
        refine NoPanic.normal ?_
        have e9 := fun W => eqSl none 0 0 W
        have e10 := fun W => eqSl (some ⟨gQ, 0, none⟩) 21 cpQ W
        have n10 := fun W => neSl (some ⟨gQ, 0, none⟩) 21 cpQ W
        simp only [Option.isNone_none] at e9
        simp only [Option.isNone_some] at e10
        simp only [Option.isNone_some, Bool.not_false] at n10
        have hv0 := HC.out wB.drew KwB.out.drew
        go_upto_region 14 with fail
        refine wp_region_noPanic ?_
        refine wp_region_held_drew (S := (fun W' : World => (W'.cell? ⟨B, 0, none⟩ = some (.int .i64 k) ∧ W'.cell? ⟨B, 1, none⟩ = some (.int .i64 f) ∧ W'.cell? ⟨B, 2, none⟩ = some (.int .i64 t) ∧ W'.cell? ⟨B, 3, none⟩ = some (.int .i64 d) ∧ W'.cell? ⟨B, 4, none⟩ = some (.int .i64 n) ∧ W'.cell? ⟨B, 5, none⟩ = some (.bool y)) ∧ (W'.cell? ⟨C, 0, none⟩ = some (.int .i64 qk) ∧ W'.cell? ⟨C, 1, none⟩ = some (.int .i64 qf) ∧ W'.cell? ⟨C, 2, none⟩ = some (.int .i64 qt) ∧ W'.cell? ⟨C, 3, none⟩ = some (.int .i64 qd) ∧ W'.cell? ⟨C, 4, none⟩ = some (.int .i64 qn) ∧ W'.cell? ⟨C, 5, none⟩ = some (.bool qy)))) (by kernel_rfl) (hv0) (fun hHeld => ?_)
        refine wpAnyH_take (i := 0) (oi := ?oFTr0) (v := ?vFTr0) ?hiFTr0 (by kernel_rfl) (by kernel_rfl) (by kernel_rfl) (fun _ _ _ h => h) (Or.inl ⟨?wFTr0, ?yFTr0⟩) (by assumption) ?rFTr0
        case hiFTr0 => (simp only [List.getElem?_toArray, List.getElem?_cons_zero]; try rfl)
        case wFTr0 => rfl
        case yFTr0 => (intro w hSw; (try dsimp only at hSw); go_simp; (try with_reducible rfl))
        (try simp only [Act.put, List.setIfInBounds_toArray, List.set_cons_zero, List.set_cons_succ])
        refine wpAnyH_take (i := 1) (oi := ?oFTr1) (v := ?vFTr1) ?hiFTr1 (by kernel_rfl) (by kernel_rfl) (by kernel_rfl) (fun _ _ _ h => h) (Or.inl ⟨?wFTr1, ?yFTr1⟩) (by assumption) ?rFTr1
        case hiFTr1 => (simp only [List.getElem?_toArray, List.getElem?_cons_succ, List.getElem?_cons_zero]; try rfl)
        case wFTr1 => rfl
        case yFTr1 => (intro w hSw; (try dsimp only at hSw); go_simp; (try with_reducible rfl))
        (try simp only [Act.put, List.setIfInBounds_toArray, List.set_cons_zero, List.set_cons_succ])
        refine wpAnyH_take (i := 2) (oi := ?oFTr2) (v := ?vFTr2) ?hiFTr2 (by kernel_rfl) (by kernel_rfl) (by kernel_rfl) (fun _ _ _ h => h) (Or.inl ⟨?wFTr2, ?yFTr2⟩) (by assumption) ?rFTr2
        case hiFTr2 => (simp only [List.getElem?_toArray, List.getElem?_cons_succ, List.getElem?_cons_zero]; try rfl)
        case wFTr2 => rfl
        case yFTr2 => (intro w hSw; (try dsimp only at hSw); go_simp; (try with_reducible rfl))
        (try simp only [Act.put, List.setIfInBounds_toArray, List.set_cons_zero, List.set_cons_succ])
        refine wpAnyH_ready (rs := [3]) (by kernel_rfl) (by simp) ?_
        refine AllReadyH.cons (o := ?oFTr3) ?hiFTr3 (fun K hK => ?_) AllReadyH.nil
        case hiFTr3 => (simp only [List.getElem?_toArray, List.getElem?_cons_succ, List.getElem?_cons_zero]; try rfl)
        go_simp
        (go_at_call 16; refine (HRK2.out _).mono ?_; rintro e wC ⟨rfl, hkC⟩; have KwC : Hid (Keep NoF wB wC) := Lib.hid hkC.of_drew; clear hkC)
        go_wp2_with fail
        refine hK.out _ _ (HC.out _ (KwB.out.trans' KwC.out)) (fun hHeld => ?_)
        clear hK K
        (try simp only [Act.put, List.setIfInBounds_toArray, List.set_cons_zero, List.set_cons_succ])
        refine wpAnyH_take (i := 4) (oi := ?oFTr4) (v := ?vFTr4) ?hiFTr4 (by kernel_rfl) (by kernel_rfl) (by kernel_rfl) (fun _ _ _ h => h) (Or.inl ⟨?wFTr4, ?yFTr4⟩) (by assumption) ?rFTr4
        case hiFTr4 => (simp only [List.getElem?_toArray, List.getElem?_cons_succ, List.getElem?_cons_zero]; try rfl)
        case wFTr4 => rfl
        case yFTr4 => (intro w hSw; (try dsimp only at hSw); go_simp; (try with_reducible rfl))
        (try simp only [Act.put, List.setIfInBounds_toArray, List.set_cons_zero, List.set_cons_succ])
        refine wpAnyH_take (i := 5) (oi := ?oFTr5) (v := ?vFTr5) ?hiFTr5 (by kernel_rfl) (by kernel_rfl) (by kernel_rfl) (fun _ _ _ h => h) (Or.inl ⟨?wFTr5, ?yFTr5⟩) (by assumption) ?rFTr5
        case hiFTr5 => (simp only [List.getElem?_toArray, List.getElem?_cons_succ, List.getElem?_cons_zero]; try rfl)
        case wFTr5 => rfl
        case yFTr5 => (intro w hSw; (try dsimp only at hSw); go_simp; (try with_reducible rfl))
        (try simp only [Act.put, List.setIfInBounds_toArray, List.set_cons_zero, List.set_cons_succ])
        refine wpAnyH_take (i := 6) (oi := ?oFTr6) (v := ?vFTr6) ?hiFTr6 (by kernel_rfl) (by kernel_rfl) (by kernel_rfl) (fun _ _ _ h => h) (Or.inl ⟨?wFTr6, ?yFTr6⟩) (by assumption) ?rFTr6
        case hiFTr6 => (simp only [List.getElem?_toArray, List.getElem?_cons_succ, List.getElem?_cons_zero]; try rfl)
        case wFTr6 => rfl
        case yFTr6 => (intro w hSw; (try dsimp only at hSw); go_simp; (try with_reducible rfl))
        (try simp only [Act.put, List.setIfInBounds_toArray, List.set_cons_zero, List.set_cons_succ])
        refine wpAnyH_take (i := 7) (oi := ?oFTr7) (v := ?vFTr7) ?hiFTr7 (by kernel_rfl) (by kernel_rfl) (by kernel_rfl) (fun _ _ _ h => h) (Or.inl ⟨?wFTr7, ?yFTr7⟩) (by assumption) ?rFTr7
        case hiFTr7 => (simp only [List.getElem?_toArray, List.getElem?_cons_succ, List.getElem?_cons_zero]; try rfl)
        case wFTr7 => rfl
        case yFTr7 => (intro w hSw; (try dsimp only at hSw); go_simp; (try with_reducible rfl))
        (try simp only [Act.put, List.setIfInBounds_toArray, List.set_cons_zero, List.set_cons_succ])
        refine wpAnyH_take (i := 8) (oi := ?oFTr8) (v := ?vFTr8) ?hiFTr8 (by kernel_rfl) (by kernel_rfl) (by kernel_rfl) (fun _ _ _ h => h) (Or.inl ⟨?wFTr8, ?yFTr8⟩) (by assumption) ?rFTr8
        case hiFTr8 => (simp only [List.getElem?_toArray, List.getElem?_cons_succ, List.getElem?_cons_zero]; try rfl)
        case wFTr8 => rfl
        case yFTr8 => (intro w hSw; (try dsimp only at hSw); go_simp; (try with_reducible rfl))
        (try simp only [Act.put, List.setIfInBounds_toArray, List.set_cons_zero, List.set_cons_succ])
        refine wpAnyH_take (i := 9) (oi := ?oFTr9) (v := undef) ?hiFTr9 (by kernel_rfl) (by kernel_rfl) (by kernel_rfl) (fun _ _ _ h => h) (Or.inr ⟨?wFTr9, rfl⟩) (by assumption) ?rFTr9
        case hiFTr9 => (simp only [List.getElem?_toArray, List.getElem?_cons_succ, List.getElem?_cons_zero]; try rfl)
        case wFTr9 => rfl
        (try simp only [Act.put, List.setIfInBounds_toArray, List.set_cons_zero, List.set_cons_succ])
        refine wpAnyH_take (i := 10) (oi := ?oFTr10) (v := undef) ?hiFTr10 (by kernel_rfl) (by kernel_rfl) (by kernel_rfl) (fun _ _ _ h => h) (Or.inr ⟨?wFTr10, rfl⟩) (by assumption) ?rFTr10
        case hiFTr10 => (simp only [List.getElem?_toArray, List.getElem?_cons_succ, List.getElem?_cons_zero]; try rfl)
        case wFTr10 => rfl
        (try simp only [Act.put, List.setIfInBounds_toArray, List.set_cons_zero, List.set_cons_succ])
        refine wpAnyH_take (i := 11) (oi := ?oFTr11) (v := ?vFTr11) ?hiFTr11 (by kernel_rfl) (by kernel_rfl) (by kernel_rfl) (fun _ _ _ h => h) (Or.inl ⟨?wFTr11, ?yFTr11⟩) (by assumption) ?rFTr11
        case hiFTr11 => (simp only [List.getElem?_toArray, List.getElem?_cons_succ, List.getElem?_cons_zero]; try rfl)
        case wFTr11 => rfl
        case yFTr11 => (intro w hSw; (try dsimp only at hSw); go_simp; (try with_reducible rfl))
        (try simp only [Act.put, List.setIfInBounds_toArray, List.set_cons_zero, List.set_cons_succ])
        refine wpAnyH_take (i := 12) (oi := ?oFTr12) (v := ?vFTr12) ?hiFTr12 (by kernel_rfl) (by kernel_rfl) (by kernel_rfl) (fun _ _ _ h => h) (Or.inl ⟨?wFTr12, ?yFTr12⟩) (by assumption) ?rFTr12
        case hiFTr12 => (simp only [List.getElem?_toArray, List.getElem?_cons_succ, List.getElem?_cons_zero]; try rfl)
        case wFTr12 => rfl
        case yFTr12 => (intro w hSw; (try dsimp only at hSw); go_simp; (try with_reducible rfl))
        (try simp only [Act.put, List.setIfInBounds_toArray, List.set_cons_zero, List.set_cons_succ])
        refine wpAnyH_take (i := 13) (oi := ?oFTr13) (v := undef) ?hiFTr13 (by kernel_rfl) (by kernel_rfl) (by kernel_rfl) (fun _ _ _ h => h) (Or.inr ⟨?wFTr13, rfl⟩) (by assumption) ?rFTr13
        case hiFTr13 => (simp only [List.getElem?_toArray, List.getElem?_cons_succ, List.getElem?_cons_zero]; try rfl)
        case wFTr13 => rfl
        (try simp only [Act.put, List.setIfInBounds_toArray, List.set_cons_zero, List.set_cons_succ])
        refine wpAnyH_take (i := 14) (oi := ?oFTr14) (v := undef) ?hiFTr14 (by kernel_rfl) (by kernel_rfl) (by kernel_rfl) (fun _ _ _ h => h) (Or.inr ⟨?wFTr14, rfl⟩) (by assumption) ?rFTr14
        case hiFTr14 => (simp only [List.getElem?_toArray, List.getElem?_cons_succ, List.getElem?_cons_zero]; try rfl)
        case wFTr14 => rfl
        (try simp only [Act.put, List.setIfInBounds_toArray, List.set_cons_zero, List.set_cons_succ])
        refine wpAnyH_take (i := 15) (oi := ?oFTr15) (v := undef) ?hiFTr15 (by kernel_rfl) (by kernel_rfl) (by kernel_rfl) (fun _ _ _ h => h) (Or.inr ⟨?wFTr15, rfl⟩) (by assumption) ?rFTr15
        case hiFTr15 => (simp only [List.getElem?_toArray, List.getElem?_cons_succ, List.getElem?_cons_zero]; try rfl)
        case wFTr15 => rfl
        (try simp only [Act.put, List.setIfInBounds_toArray, List.set_cons_zero, List.set_cons_succ])
        refine wpAnyH_take (i := 16) (oi := ?oFTr16) (v := undef) ?hiFTr16 (by kernel_rfl) (by kernel_rfl) (by kernel_rfl) (fun _ _ _ h => h) (Or.inr ⟨?wFTr16, rfl⟩) (by assumption) ?rFTr16
        case hiFTr16 => (simp only [List.getElem?_toArray, List.getElem?_cons_succ, List.getElem?_cons_zero]; try rfl)
        case wFTr16 => rfl
        (try simp only [Act.put, List.setIfInBounds_toArray, List.set_cons_zero, List.set_cons_succ])
        refine wpAnyH_take (i := 17) (oi := ?oFTr17) (v := undef) ?hiFTr17 (by kernel_rfl) (by kernel_rfl) (by kernel_rfl) (fun _ _ _ h => h) (Or.inr ⟨?wFTr17, rfl⟩) (by assumption) ?rFTr17
        case hiFTr17 => (simp only [List.getElem?_toArray, List.getElem?_cons_succ, List.getElem?_cons_zero]; try rfl)
        case wFTr17 => rfl
        (try simp only [Act.put, List.setIfInBounds_toArray, List.set_cons_zero, List.set_cons_succ])
        refine wpAnyH_take (i := 18) (oi := ?oFTr18) (v := undef) ?hiFTr18 (by kernel_rfl) (by kernel_rfl) (by kernel_rfl) (fun _ _ _ h => h) (Or.inr ⟨?wFTr18, rfl⟩) (by assumption) ?rFTr18
        case hiFTr18 => (simp only [List.getElem?_toArray, List.getElem?_cons_succ, List.getElem?_cons_zero]; try rfl)
        case wFTr18 => rfl
        (try simp only [Act.put, List.setIfInBounds_toArray, List.set_cons_zero, List.set_cons_succ])
        refine wpAnyH_take (i := 19) (oi := ?oFTr19) (v := undef) ?hiFTr19 (by kernel_rfl) (by kernel_rfl) (by kernel_rfl) (fun _ _ _ h => h) (Or.inr ⟨?wFTr19, rfl⟩) (by assumption) ?rFTr19
        case hiFTr19 => (simp only [List.getElem?_toArray, List.getElem?_cons_succ, List.getElem?_cons_zero]; try rfl)
        case wFTr19 => rfl
        (try simp only [Act.put, List.setIfInBounds_toArray, List.set_cons_zero, List.set_cons_succ])
        refine wpAnyH_take (i := 20) (oi := ?oFTr20) (v := undef) ?hiFTr20 (by kernel_rfl) (by kernel_rfl) (by kernel_rfl) (fun _ _ _ h => h) (Or.inr ⟨?wFTr20, rfl⟩) (by assumption) ?rFTr20
        case hiFTr20 => (simp only [List.getElem?_toArray, List.getElem?_cons_succ, List.getElem?_cons_zero]; try rfl)
        case wFTr20 => rfl
        (try simp only [Act.put, List.setIfInBounds_toArray, List.set_cons_zero, List.set_cons_succ])
        refine wpAnyH_take (i := 21) (oi := ?oFTr21) (v := undef) ?hiFTr21 (by kernel_rfl) (by kernel_rfl) (by kernel_rfl) (fun _ _ _ h => h) (Or.inr ⟨?wFTr21, rfl⟩) (by assumption) ?rFTr21
        case hiFTr21 => (simp only [List.getElem?_toArray, List.getElem?_cons_succ, List.getElem?_cons_zero]; try rfl)
        case wFTr21 => rfl
        (try simp only [Act.put, List.setIfInBounds_toArray, List.set_cons_zero, List.set_cons_succ])
        refine wpAnyH_take (i := 22) (oi := ?oFTr22) (v := ?vFTr22) ?hiFTr22 (by kernel_rfl) (by kernel_rfl) (by kernel_rfl) (fun _ _ _ h => h) (Or.inl ⟨?wFTr22, ?yFTr22⟩) (by assumption) ?rFTr22
        case hiFTr22 => (simp only [List.getElem?_toArray, List.getElem?_cons_succ, List.getElem?_cons_zero]; try rfl)
        case wFTr22 => rfl
        case yFTr22 => (intro w hSw; (try dsimp only at hSw); go_simp; (try with_reducible rfl))
        (try simp only [Act.put, List.setIfInBounds_toArray, List.set_cons_zero, List.set_cons_succ])
        refine wpAnyH_take (i := 23) (oi := ?oFTr23) (v := ?vFTr23) ?hiFTr23 (by kernel_rfl) (by kernel_rfl) (by kernel_rfl) (fun _ _ _ h => h) (Or.inl ⟨?wFTr23, ?yFTr23⟩) (by assumption) ?rFTr23
        case hiFTr23 => (simp only [List.getElem?_toArray, List.getElem?_cons_succ, List.getElem?_cons_zero]; try rfl)
        case wFTr23 => rfl
        case yFTr23 => (intro w hSw; (try dsimp only at hSw); go_simp; (try with_reducible rfl))
        (try simp only [Act.put, List.setIfInBounds_toArray, List.set_cons_zero, List.set_cons_succ])
        refine wpAnyH_take (i := 24) (oi := ?oFTr24) (v := ?vFTr24) ?hiFTr24 (by kernel_rfl) (by kernel_rfl) (by kernel_rfl) (fun _ _ _ h => h) (Or.inl ⟨?wFTr24, ?yFTr24⟩) (by assumption) ?rFTr24
        case hiFTr24 => (simp only [List.getElem?_toArray, List.getElem?_cons_succ, List.getElem?_cons_zero]; try rfl)
        case wFTr24 => rfl
        case yFTr24 => (intro w hSw; (try dsimp only at hSw); go_simp; (try with_reducible rfl))
        (try simp only [Act.put, List.setIfInBounds_toArray, List.set_cons_zero, List.set_cons_succ])
        refine wpAnyH_done (by kernel_rfl) ?_ _
        refine NoPanic.normal ?_
        go_wp2_with fail
        go_ret
        exact ⟨rfl, K3.out.trans' (KwB.out.trans' KwC.out)⟩
    · have HPE := Lib.hid (fun W => wenc_ok P W HOK.out hbp)
      rw [HPV.out] at HPE
      obtain ⟨A, hA⟩ : ∃ A, wireB P = A := ⟨_, rfl⟩
      have HPL : Hid (A.length = 21) := Lib.hid (by rw [← hA]; exact wireB_length P)
      rw [hA] at HPE
      have HA := Lib.hid hA
      clear hA
      rcases hbq : packB Q with _ | _
      · have HQE := Lib.hid (fun W => wenc_bad Q W HOK2.out hbq)
        rw [HQV.out] at HQE
        have hrk := HRK.out
        rw [hbq] at hrk
        have HRK2 := Lib.hid hrk
        clear hbq hrk
        go_upto_region 13 with fail
        refine wp_region_noPanic ?_
        refine wp_region_held_drew (S := (fun W' : World => (W'.cell? ⟨B, 0, none⟩ = some (.int .i64 k) ∧ W'.cell? ⟨B, 1, none⟩ = some (.int .i64 f) ∧ W'.cell? ⟨B, 2, none⟩ = some (.int .i64 t) ∧ W'.cell? ⟨B, 3, none⟩ = some (.int .i64 d) ∧ W'.cell? ⟨B, 4, none⟩ = some (.int .i64 n) ∧ W'.cell? ⟨B, 5, none⟩ = some (.bool y)) ∧ (W'.cell? ⟨C, 0, none⟩ = some (.int .i64 qk) ∧ W'.cell? ⟨C, 1, none⟩ = some (.int .i64 qf) ∧ W'.cell? ⟨C, 2, none⟩ = some (.int .i64 qt) ∧ W'.cell? ⟨C, 3, none⟩ = some (.int .i64 qd) ∧ W'.cell? ⟨C, 4, none⟩ = some (.int .i64 qn) ∧ W'.cell? ⟨C, 5, none⟩ = some (.bool qy)))) (by kernel_rfl) (hk0) (fun hHeld => ?_)
        refine wpAnyH_take (i := 0) (oi := ?oTF0) (v := ?vTF0) ?hiTF0 (by kernel_rfl) (by kernel_rfl) (by kernel_rfl) (fun _ _ _ h => h) (Or.inl ⟨?wTF0, ?yTF0⟩) (by assumption) ?rTF0
        case hiTF0 => (simp only [List.getElem?_toArray, List.getElem?_cons_zero]; try rfl)
        case wTF0 => rfl
        case yTF0 => (intro w hSw; (try dsimp only at hSw); go_simp; (try with_reducible rfl))
        (try simp only [Act.put, List.setIfInBounds_toArray, List.set_cons_zero, List.set_cons_succ])
        refine wpAnyH_take (i := 2) (oi := ?oTF2) (v := ?vTF2) ?hiTF2 (by kernel_rfl) (by kernel_rfl) (by kernel_rfl) (fun _ _ _ h => h) (Or.inl ⟨?wTF2, ?yTF2⟩) (by assumption) ?rTF2
        case hiTF2 => (simp only [List.getElem?_toArray, List.getElem?_cons_succ, List.getElem?_cons_zero]; try rfl)
        case wTF2 => rfl
        case yTF2 => (intro w hSw; (try dsimp only at hSw); go_simp; (try with_reducible rfl))
        (try simp only [Act.put, List.setIfInBounds_toArray, List.set_cons_zero, List.set_cons_succ])
        refine wpAnyH_ready (rs := [1]) (by kernel_rfl) (by simp) ?_
        refine AllReadyH.cons (o := ?oTF1) ?hiTF1 (fun K hK => ?_) AllReadyH.nil
        case hiTF1 => (simp only [List.getElem?_toArray, List.getElem?_cons_succ, List.getElem?_cons_zero]; try rfl)
        go_simp
        (go_at_call 15; refine (HPE.out _).mono ?_; rintro e wA ⟨vwA, rfl, hvwA, hkwA, _⟩; have KwA : Hid (Keep NoF W3 wA) := Lib.hid (hkwA.of_drew); obtain ⟨gP, cpP, rfl, hsP, _⟩ := own_some hvwA HPL.out (by decide); have HSP := Lib.hid hsP; clear hkwA hvwA hsP)
        go_wp2_with fail
        refine hK.out _ _ (HC.out _ KwA.out) (fun hHeld => ?_)
        clear hK K
        (try simp only [Act.put, List.setIfInBounds_toArray, List.set_cons_zero, List.set_cons_succ])
        refine wpAnyH_ready (rs := [3]) (by kernel_rfl) (by simp) ?_
        refine AllReadyH.cons (o := ?oTF3) ?hiTF3 (fun K hK => ?_) AllReadyH.nil
        case hiTF3 => (simp only [List.getElem?_toArray, List.getElem?_cons_succ, List.getElem?_cons_zero]; try rfl)
        go_simp
        (go_at_call 15; refine (HQE.out _).mono ?_; rintro e wB ⟨rfl, hkwB⟩; have KwB : Hid (Keep NoF W3 wB) := Lib.hid (KwA.out.trans' hkwB); clear hkwB)
        go_wp2_with fail
        refine hK.out _ _ (HC.out _ KwB.out) (fun hHeld => ?_)
        clear hK K
        (try simp only [Act.put, List.setIfInBounds_toArray, List.set_cons_zero, List.set_cons_succ])
        refine wpAnyH_take (i := 4) (oi := ?oTF4) (v := ?vTF4) ?hiTF4 (by kernel_rfl) (by kernel_rfl) (by kernel_rfl) (fun _ _ _ h => h) (Or.inl ⟨?wTF4, ?yTF4⟩) (by assumption) ?rTF4
        case hiTF4 => (simp only [List.getElem?_toArray, List.getElem?_cons_succ, List.getElem?_cons_zero]; try rfl)
        case wTF4 => rfl
        case yTF4 => (intro w hSw; (try dsimp only at hSw); go_simp; (try with_reducible rfl))
        (try simp only [Act.put, List.setIfInBounds_toArray, List.set_cons_zero, List.set_cons_succ])
        refine wpAnyH_take (i := 5) (oi := ?oTF5) (v := ?vTF5) ?hiTF5 (by kernel_rfl) (by kernel_rfl) (by kernel_rfl) (fun _ _ _ h => h) (Or.inl ⟨?wTF5, ?yTF5⟩) (by assumption) ?rTF5
        case hiTF5 => (simp only [List.getElem?_toArray, List.getElem?_cons_succ, List.getElem?_cons_zero]; try rfl)
        case wTF5 => rfl
        case yTF5 => (intro w hSw; (try dsimp only at hSw); go_simp; (try with_reducible rfl))
        (try simp only [Act.put, List.setIfInBounds_toArray, List.set_cons_zero, List.set_cons_succ])
        refine wpAnyH_done (by kernel_rfl) ?_ _
        refine NoPanic.normal ?_
        have e9 := fun W => eqSl (some ⟨gP, 0, none⟩) 21 cpP W
        have e10 := fun W => eqSl none 0 0 W
        have n10 := fun W => neSl none 0 0 W
        simp only [Option.isNone_some] at e9
        simp only [Option.isNone_none] at e10
        simp only [Option.isNone_none, Bool.not_true] at n10
        have hv0 := HC.out wB.drew KwB.out.drew
        go_upto_region 14 with fail
        refine wp_region_noPanic ?_
        refine wp_region_held_drew (S := (fun W' : World => (W'.cell? ⟨B, 0, none⟩ = some (.int .i64 k) ∧ W'.cell? ⟨B, 1, none⟩ = some (.int .i64 f) ∧ W'.cell? ⟨B, 2, none⟩ = some (.int .i64 t) ∧ W'.cell? ⟨B, 3, none⟩ = some (.int .i64 d) ∧ W'.cell? ⟨B, 4, none⟩ = some (.int .i64 n) ∧ W'.cell? ⟨B, 5, none⟩ = some (.bool y)) ∧ (W'.cell? ⟨C, 0, none⟩ = some (.int .i64 qk) ∧ W'.cell? ⟨C, 1, none⟩ = some (.int .i64 qf) ∧ W'.cell? ⟨C, 2, none⟩ = some (.int .i64 qt) ∧ W'.cell? ⟨C, 3, none⟩ = some (.int .i64 qd) ∧ W'.cell? ⟨C, 4, none⟩ = some (.int .i64 qn) ∧ W'.cell? ⟨C, 5, none⟩ = some (.bool qy)))) (by kernel_rfl) (hv0) (fun hHeld => ?_)
        refine wpAnyH_take (i := 0) (oi := ?oTFr0) (v := ?vTFr0) ?hiTFr0 (by kernel_rfl) (by kernel_rfl) (by kernel_rfl) (fun _ _ _ h => h) (Or.inl ⟨?wTFr0, ?yTFr0⟩) (by assumption) ?rTFr0
        case hiTFr0 => (simp only [List.getElem?_toArray, List.getElem?_cons_zero]; try rfl)
        case wTFr0 => rfl
        case yTFr0 => (intro w hSw; (try dsimp only at hSw); go_simp; (try with_reducible rfl))
        (try simp only [Act.put, List.setIfInBounds_toArray, List.set_cons_zero, List.set_cons_succ])
        refine wpAnyH_take (i := 1) (oi := ?oTFr1) (v := ?vTFr1) ?hiTFr1 (by kernel_rfl) (by kernel_rfl) (by kernel_rfl) (fun _ _ _ h => h) (Or.inl ⟨?wTFr1, ?yTFr1⟩) (by assumption) ?rTFr1
        case hiTFr1 => (simp only [List.getElem?_toArray, List.getElem?_cons_succ, List.getElem?_cons_zero]; try rfl)
        case wTFr1 => rfl
        case yTFr1 => (intro w hSw; (try dsimp only at hSw); go_simp; (try with_reducible rfl))
        (try simp only [Act.put, List.setIfInBounds_toArray, List.set_cons_zero, List.set_cons_succ])
        refine wpAnyH_take (i := 2) (oi := ?oTFr2) (v := ?vTFr2) ?hiTFr2 (by kernel_rfl) (by kernel_rfl) (by kernel_rfl) (fun _ _ _ h => h) (Or.inl ⟨?wTFr2, ?yTFr2⟩) (by assumption) ?rTFr2
        case hiTFr2 => (simp only [List.getElem?_toArray, List.getElem?_cons_succ, List.getElem?_cons_zero]; try rfl)
        case wTFr2 => rfl
        case yTFr2 => (intro w hSw; (try dsimp only at hSw); go_simp; (try with_reducible rfl))
        (try simp only [Act.put, List.setIfInBounds_toArray, List.set_cons_zero, List.set_cons_succ])
        refine wpAnyH_ready (rs := [3]) (by kernel_rfl) (by simp) ?_
        refine AllReadyH.cons (o := ?oTFr3) ?hiTFr3 (fun K hK => ?_) AllReadyH.nil
        case hiTFr3 => (simp only [List.getElem?_toArray, List.getElem?_cons_succ, List.getElem?_cons_zero]; try rfl)
        go_simp
        (go_at_call 16; refine (HRK2.out _).mono ?_; rintro e wC ⟨rfl, hkC⟩; have KwC : Hid (Keep NoF wB wC) := Lib.hid hkC.of_drew; clear hkC)
        go_wp2_with fail
        refine hK.out _ _ (HC.out _ (KwB.out.trans' KwC.out)) (fun hHeld => ?_)
        clear hK K
        (try simp only [Act.put, List.setIfInBounds_toArray, List.set_cons_zero, List.set_cons_succ])
        refine wpAnyH_take (i := 4) (oi := ?oTFr4) (v := ?vTFr4) ?hiTFr4 (by kernel_rfl) (by kernel_rfl) (by kernel_rfl) (fun _ _ _ h => h) (Or.inl ⟨?wTFr4, ?yTFr4⟩) (by assumption) ?rTFr4
        case hiTFr4 => (simp only [List.getElem?_toArray, List.getElem?_cons_succ, List.getElem?_cons_zero]; try rfl)
        case wTFr4 => rfl
        case yTFr4 => (intro w hSw; (try dsimp only at hSw); go_simp; (try with_reducible rfl))
        (try simp only [Act.put, List.setIfInBounds_toArray, List.set_cons_zero, List.set_cons_succ])
        refine wpAnyH_take (i := 5) (oi := ?oTFr5) (v := ?vTFr5) ?hiTFr5 (by kernel_rfl) (by kernel_rfl) (by kernel_rfl) (fun _ _ _ h => h) (Or.inl ⟨?wTFr5, ?yTFr5⟩) (by assumption) ?rTFr5
        case hiTFr5 => (simp only [List.getElem?_toArray, List.getElem?_cons_succ, List.getElem?_cons_zero]; try rfl)
        case wTFr5 => rfl
        case yTFr5 => (intro w hSw; (try dsimp only at hSw); go_simp; (try with_reducible rfl))
        (try simp only [Act.put, List.setIfInBounds_toArray, List.set_cons_zero, List.set_cons_succ])
        refine wpAnyH_take (i := 6) (oi := ?oTFr6) (v := ?vTFr6) ?hiTFr6 (by kernel_rfl) (by kernel_rfl) (by kernel_rfl) (fun _ _ _ h => h) (Or.inl ⟨?wTFr6, ?yTFr6⟩) (by assumption) ?rTFr6
        case hiTFr6 => (simp only [List.getElem?_toArray, List.getElem?_cons_succ, List.getElem?_cons_zero]; try rfl)
        case wTFr6 => rfl
        case yTFr6 => (intro w hSw; (try dsimp only at hSw); go_simp; (try with_reducible rfl))
        (try simp only [Act.put, List.setIfInBounds_toArray, List.set_cons_zero, List.set_cons_succ])
        refine wpAnyH_take (i := 7) (oi := ?oTFr7) (v := ?vTFr7) ?hiTFr7 (by kernel_rfl) (by kernel_rfl) (by kernel_rfl) (fun _ _ _ h => h) (Or.inl ⟨?wTFr7, ?yTFr7⟩) (by assumption) ?rTFr7
        case hiTFr7 => (simp only [List.getElem?_toArray, List.getElem?_cons_succ, List.getElem?_cons_zero]; try rfl)
        case wTFr7 => rfl
        case yTFr7 => (intro w hSw; (try dsimp only at hSw); go_simp; (try with_reducible rfl))
        (try simp only [Act.put, List.setIfInBounds_toArray, List.set_cons_zero, List.set_cons_succ])
        refine wpAnyH_take (i := 8) (oi := ?oTFr8) (v := ?vTFr8) ?hiTFr8 (by kernel_rfl) (by kernel_rfl) (by kernel_rfl) (fun _ _ _ h => h) (Or.inl ⟨?wTFr8, ?yTFr8⟩) (by assumption) ?rTFr8
        case hiTFr8 => (simp only [List.getElem?_toArray, List.getElem?_cons_succ, List.getElem?_cons_zero]; try rfl)
        case wTFr8 => rfl
        case yTFr8 => (intro w hSw; (try dsimp only at hSw); go_simp; (try with_reducible rfl))
        (try simp only [Act.put, List.setIfInBounds_toArray, List.set_cons_zero, List.set_cons_succ])
        refine wpAnyH_take (i := 9) (oi := ?oTFr9) (v := ?vTFr9) ?hiTFr9 (by kernel_rfl) (by kernel_rfl) (by kernel_rfl) (fun _ _ _ h => h) (Or.inl ⟨?wTFr9, ?yTFr9⟩) (by assumption) ?rTFr9
        case hiTFr9 => (simp only [List.getElem?_toArray, List.getElem?_cons_succ, List.getElem?_cons_zero]; try rfl)
        case wTFr9 => rfl
        case yTFr9 => (intro w hSw; (try dsimp only at hSw); go_simp; (try with_reducible rfl))
        (try simp only [Act.put, List.setIfInBounds_toArray, List.set_cons_zero, List.set_cons_succ])
        refine wpAnyH_take (i := 10) (oi := ?oTFr10) (v := ?vTFr10) ?hiTFr10 (by kernel_rfl) (by kernel_rfl) (by kernel_rfl) (fun _ _ _ h => h) (Or.inl ⟨?wTFr10, ?yTFr10⟩) (by assumption) ?rTFr10
        case hiTFr10 => (simp only [List.getElem?_toArray, List.getElem?_cons_succ, List.getElem?_cons_zero]; try rfl)
        case wTFr10 => rfl
        case yTFr10 => (intro w hSw; (try dsimp only at hSw); go_simp; (try with_reducible rfl))
        (try simp only [Act.put, List.setIfInBounds_toArray, List.set_cons_zero, List.set_cons_succ])
        refine wpAnyH_take (i := 11) (oi := ?oTFr11) (v := ?vTFr11) ?hiTFr11 (by kernel_rfl) (by kernel_rfl) (by kernel_rfl) (fun _ _ _ h => h) (Or.inl ⟨?wTFr11, ?yTFr11⟩) (by assumption) ?rTFr11
        case hiTFr11 => (simp only [List.getElem?_toArray, List.getElem?_cons_succ, List.getElem?_cons_zero]; try rfl)
        case wTFr11 => rfl
        case yTFr11 => (intro w hSw; (try dsimp only at hSw); go_simp; (try with_reducible rfl))
        (try simp only [Act.put, List.setIfInBounds_toArray, List.set_cons_zero, List.set_cons_succ])
        refine wpAnyH_take (i := 12) (oi := ?oTFr12) (v := ?vTFr12) ?hiTFr12 (by kernel_rfl) (by kernel_rfl) (by kernel_rfl) (fun _ _ _ h => h) (Or.inl ⟨?wTFr12, ?yTFr12⟩) (by assumption) ?rTFr12
        case hiTFr12 => (simp only [List.getElem?_toArray, List.getElem?_cons_succ, List.getElem?_cons_zero]; try rfl)
        case wTFr12 => rfl
        case yTFr12 => (intro w hSw; (try dsimp only at hSw); go_simp; (try with_reducible rfl))
        (try simp only [Act.put, List.setIfInBounds_toArray, List.set_cons_zero, List.set_cons_succ])
        refine wpAnyH_take (i := 13) (oi := ?oTFr13) (v := undef) ?hiTFr13 (by kernel_rfl) (by kernel_rfl) (by kernel_rfl) (fun _ _ _ h => h) (Or.inr ⟨?wTFr13, rfl⟩) (by assumption) ?rTFr13
        case hiTFr13 => (simp only [List.getElem?_toArray, List.getElem?_cons_succ, List.getElem?_cons_zero]; try rfl)
        case wTFr13 => rfl
        (try simp only [Act.put, List.setIfInBounds_toArray, List.set_cons_zero, List.set_cons_succ])
        refine wpAnyH_take (i := 14) (oi := ?oTFr14) (v := undef) ?hiTFr14 (by kernel_rfl) (by kernel_rfl) (by kernel_rfl) (fun _ _ _ h => h) (Or.inr ⟨?wTFr14, rfl⟩) (by assumption) ?rTFr14
        case hiTFr14 => (simp only [List.getElem?_toArray, List.getElem?_cons_succ, List.getElem?_cons_zero]; try rfl)
        case wTFr14 => rfl
        (try simp only [Act.put, List.setIfInBounds_toArray, List.set_cons_zero, List.set_cons_succ])
        refine wpAnyH_take (i := 15) (oi := ?oTFr15) (v := undef) ?hiTFr15 (by kernel_rfl) (by kernel_rfl) (by kernel_rfl) (fun _ _ _ h => h) (Or.inr ⟨?wTFr15, rfl⟩) (by assumption) ?rTFr15
        case hiTFr15 => (simp only [List.getElem?_toArray, List.getElem?_cons_succ, List.getElem?_cons_zero]; try rfl)
        case wTFr15 => rfl
        (try simp only [Act.put, List.setIfInBounds_toArray, List.set_cons_zero, List.set_cons_succ])
        refine wpAnyH_take (i := 16) (oi := ?oTFr16) (v := undef) ?hiTFr16 (by kernel_rfl) (by kernel_rfl) (by kernel_rfl) (fun _ _ _ h => h) (Or.inr ⟨?wTFr16, rfl⟩) (by assumption) ?rTFr16
        case hiTFr16 => (simp only [List.getElem?_toArray, List.getElem?_cons_succ, List.getElem?_cons_zero]; try rfl)
        case wTFr16 => rfl
        (try simp only [Act.put, List.setIfInBounds_toArray, List.set_cons_zero, List.set_cons_succ])
        refine wpAnyH_take (i := 17) (oi := ?oTFr17) (v := undef) ?hiTFr17 (by kernel_rfl) (by kernel_rfl) (by kernel_rfl) (fun _ _ _ h => h) (Or.inr ⟨?wTFr17, rfl⟩) (by assumption) ?rTFr17
        case hiTFr17 => (simp only [List.getElem?_toArray, List.getElem?_cons_succ, List.getElem?_cons_zero]; try rfl)
        case wTFr17 => rfl
        (try simp only [Act.put, List.setIfInBounds_toArray, List.set_cons_zero, List.set_cons_succ])
        refine wpAnyH_take (i := 18) (oi := ?oTFr18) (v := undef) ?hiTFr18 (by kernel_rfl) (by kernel_rfl) (by kernel_rfl) (fun _ _ _ h => h) (Or.inr ⟨?wTFr18, rfl⟩) (by assumption) ?rTFr18
        case hiTFr18 => (simp only [List.getElem?_toArray, List.getElem?_cons_succ, List.getElem?_cons_zero]; try rfl)
        case wTFr18 => rfl
        (try simp only [Act.put, List.setIfInBounds_toArray, List.set_cons_zero, List.set_cons_succ])
        refine wpAnyH_take (i := 19) (oi := ?oTFr19) (v := undef) ?hiTFr19 (by kernel_rfl) (by kernel_rfl) (by kernel_rfl) (fun _ _ _ h => h) (Or.inr ⟨?wTFr19, rfl⟩) (by assumption) ?rTFr19
        case hiTFr19 => (simp only [List.getElem?_toArray, List.getElem?_cons_succ, List.getElem?_cons_zero]; try rfl)
        case wTFr19 => rfl
        (try simp only [Act.put, List.setIfInBounds_toArray, List.set_cons_zero, List.set_cons_succ])
        refine wpAnyH_take (i := 20) (oi := ?oTFr20) (v := undef) ?hiTFr20 (by kernel_rfl) (by kernel_rfl) (by kernel_rfl) (fun _ _ _ h => h) (Or.inr ⟨?wTFr20, rfl⟩) (by assumption) ?rTFr20
        case hiTFr20 => (simp only [List.getElem?_toArray, List.getElem?_cons_succ, List.getElem?_cons_zero]; try rfl)
        case wTFr20 => rfl
        (try simp only [Act.put, List.setIfInBounds_toArray, List.set_cons_zero, List.set_cons_succ])
        refine wpAnyH_take (i := 21) (oi := ?oTFr21) (v := undef) ?hiTFr21 (by kernel_rfl) (by kernel_rfl) (by kernel_rfl) (fun _ _ _ h => h) (Or.inr ⟨?wTFr21, rfl⟩) (by assumption) ?rTFr21
        case hiTFr21 => (simp only [List.getElem?_toArray, List.getElem?_cons_succ, List.getElem?_cons_zero]; try rfl)
        case wTFr21 => rfl
        (try simp only [Act.put, List.setIfInBounds_toArray, List.set_cons_zero, List.set_cons_succ])
        refine wpAnyH_take (i := 22) (oi := ?oTFr22) (v := ?vTFr22) ?hiTFr22 (by kernel_rfl) (by kernel_rfl) (by kernel_rfl) (fun _ _ _ h => h) (Or.inl ⟨?wTFr22, ?yTFr22⟩) (by assumption) ?rTFr22
        case hiTFr22 => (simp only [List.getElem?_toArray, List.getElem?_cons_succ, List.getElem?_cons_zero]; try rfl)
        case wTFr22 => rfl
        case yTFr22 => (intro w hSw; (try dsimp only at hSw); go_simp; (try with_reducible rfl))
        (try simp only [Act.put, List.setIfInBounds_toArray, List.set_cons_zero, List.set_cons_succ])
        refine wpAnyH_take (i := 23) (oi := ?oTFr23) (v := ?vTFr23) ?hiTFr23 (by kernel_rfl) (by kernel_rfl) (by kernel_rfl) (fun _ _ _ h => h) (Or.inl ⟨?wTFr23, ?yTFr23⟩) (by assumption) ?rTFr23
        case hiTFr23 => (simp only [List.getElem?_toArray, List.getElem?_cons_succ, List.getElem?_cons_zero]; try rfl)
        case wTFr23 => rfl
        case yTFr23 => (intro w hSw; (try dsimp only at hSw); go_simp; (try with_reducible rfl))
        (try simp only [Act.put, List.setIfInBounds_toArray, List.set_cons_zero, List.set_cons_succ])
        refine wpAnyH_take (i := 24) (oi := ?oTFr24) (v := ?vTFr24) ?hiTFr24 (by kernel_rfl) (by kernel_rfl) (by kernel_rfl) (fun _ _ _ h => h) (Or.inl ⟨?wTFr24, ?yTFr24⟩) (by assumption) ?rTFr24
        case hiTFr24 => (simp only [List.getElem?_toArray, List.getElem?_cons_succ, List.getElem?_cons_zero]; try rfl)
        case wTFr24 => rfl
        case yTFr24 => (intro w hSw; (try dsimp only at hSw); go_simp; (try with_reducible rfl))
        (try simp only [Act.put, List.setIfInBounds_toArray, List.set_cons_zero, List.set_cons_succ])
        refine wpAnyH_done (by kernel_rfl) ?_ _
        refine NoPanic.normal ?_
        go_wp2_with fail
        go_ret
        exact ⟨rfl, K3.out.trans' (KwB.out.trans' KwC.out)⟩
      · have HQE := Lib.hid (fun W => wenc_ok Q W HOK2.out hbq)
        rw [HQV.out] at HQE
        have hrk := HRK.out
        rw [hbq] at hrk
        have HRK2 := Lib.hid hrk
        obtain ⟨A2, hA2⟩ : ∃ A, wireB Q = A := ⟨_, rfl⟩
        have HQL : Hid (A2.length = 21) := Lib.hid (by rw [← hA2]; exact wireB_length Q)
        rw [hA2] at HQE
        have HA2 := Lib.hid hA2
        clear hA2
        have hcw := cmp_wire ⟨HOK.out, hbp⟩ ⟨HOK2.out, hbq⟩
        rw [HA.out, HA2.out] at hcw
        obtain ⟨s, hs⟩ : ∃ s, eqP P Q = s := ⟨_, rfl⟩
        rw [hs] at hcw
        have HEQ := Lib.hid (fun (w : World) => ifs_eq P Q (Result.ok (Next.value (Value.bool true)) w) (Result.ok (Next.value (Value.bool false)) w))
        rw [hs, HHP.out, HHQ.out] at HEQ
        clear hs
        clear hbq hrk
        go_upto_region 13 with fail
        refine wp_region_noPanic ?_
        refine wp_region_held_drew (S := (fun W' : World => (W'.cell? ⟨B, 0, none⟩ = some (.int .i64 k) ∧ W'.cell? ⟨B, 1, none⟩ = some (.int .i64 f) ∧ W'.cell? ⟨B, 2, none⟩ = some (.int .i64 t) ∧ W'.cell? ⟨B, 3, none⟩ = some (.int .i64 d) ∧ W'.cell? ⟨B, 4, none⟩ = some (.int .i64 n) ∧ W'.cell? ⟨B, 5, none⟩ = some (.bool y)) ∧ (W'.cell? ⟨C, 0, none⟩ = some (.int .i64 qk) ∧ W'.cell? ⟨C, 1, none⟩ = some (.int .i64 qf) ∧ W'.cell? ⟨C, 2, none⟩ = some (.int .i64 qt) ∧ W'.cell? ⟨C, 3, none⟩ = some (.int .i64 qd) ∧ W'.cell? ⟨C, 4, none⟩ = some (.int .i64 qn) ∧ W'.cell? ⟨C, 5, none⟩ = some (.bool qy)))) (by kernel_rfl) (hk0) (fun hHeld => ?_)
        refine wpAnyH_take (i := 0) (oi := ?oTT0) (v := ?vTT0) ?hiTT0 (by kernel_rfl) (by kernel_rfl) (by kernel_rfl) (fun _ _ _ h => h) (Or.inl ⟨?wTT0, ?yTT0⟩) (by assumption) ?rTT0
        case hiTT0 => (simp only [List.getElem?_toArray, List.getElem?_cons_zero]; try rfl)
        case wTT0 => rfl
        case yTT0 => (intro w hSw; (try dsimp only at hSw); go_simp; (try with_reducible rfl))
        (try simp only [Act.put, List.setIfInBounds_toArray, List.set_cons_zero, List.set_cons_succ])
        refine wpAnyH_take (i := 2) (oi := ?oTT2) (v := ?vTT2) ?hiTT2 (by kernel_rfl) (by kernel_rfl) (by kernel_rfl) (fun _ _ _ h => h) (Or.inl ⟨?wTT2, ?yTT2⟩) (by assumption) ?rTT2
        case hiTT2 => (simp only [List.getElem?_toArray, List.getElem?_cons_succ, List.getElem?_cons_zero]; try rfl)
        case wTT2 => rfl
        case yTT2 => (intro w hSw; (try dsimp only at hSw); go_simp; (try with_reducible rfl))
        (try simp only [Act.put, List.setIfInBounds_toArray, List.set_cons_zero, List.set_cons_succ])
        refine wpAnyH_ready (rs := [1]) (by kernel_rfl) (by simp) ?_
        refine AllReadyH.cons (o := ?oTT1) ?hiTT1 (fun K hK => ?_) AllReadyH.nil
        case hiTT1 => (simp only [List.getElem?_toArray, List.getElem?_cons_succ, List.getElem?_cons_zero]; try rfl)
        go_simp
        (go_at_call 15; refine (HPE.out _).mono ?_; rintro e wA ⟨vwA, rfl, hvwA, hkwA, _⟩; have KwA : Hid (Keep NoF W3 wA) := Lib.hid (hkwA.of_drew); obtain ⟨gP, cpP, rfl, hsP, _⟩ := own_some hvwA HPL.out (by decide); have HSP := Lib.hid hsP; clear hkwA hvwA hsP)
        go_wp2_with fail
        refine hK.out _ _ (HC.out _ KwA.out) (fun hHeld => ?_)
        clear hK K
        (try simp only [Act.put, List.setIfInBounds_toArray, List.set_cons_zero, List.set_cons_succ])
        refine wpAnyH_ready (rs := [3]) (by kernel_rfl) (by simp) ?_
        refine AllReadyH.cons (o := ?oTT3) ?hiTT3 (fun K hK => ?_) AllReadyH.nil
        case hiTT3 => (simp only [List.getElem?_toArray, List.getElem?_cons_succ, List.getElem?_cons_zero]; try rfl)
        go_simp
        (go_at_call 15; refine (HQE.out _).mono ?_; rintro e wB ⟨vwB, rfl, hvwB, hkwB, _⟩; have hkAB : Keep NoF wA wB := hkwB; have KwB : Hid (Keep NoF W3 wB) := Lib.hid (KwA.out.trans' hkwB); obtain ⟨gQ, cpQ, rfl, hsQ, _⟩ := own_some hvwB HQL.out (by decide); have HSQ := Lib.hid hsQ; clear hkwB hvwB hsQ)
        go_wp2_with fail
        refine hK.out _ _ (HC.out _ KwB.out) (fun hHeld => ?_)
        clear hK K
        (try simp only [Act.put, List.setIfInBounds_toArray, List.set_cons_zero, List.set_cons_succ])
        refine wpAnyH_take (i := 4) (oi := ?oTT4) (v := ?vTT4) ?hiTT4 (by kernel_rfl) (by kernel_rfl) (by kernel_rfl) (fun _ _ _ h => h) (Or.inl ⟨?wTT4, ?yTT4⟩) (by assumption) ?rTT4
        case hiTT4 => (simp only [List.getElem?_toArray, List.getElem?_cons_succ, List.getElem?_cons_zero]; try rfl)
        case wTT4 => rfl
        case yTT4 => (intro w hSw; (try dsimp only at hSw); go_simp; (try with_reducible rfl))
        (try simp only [Act.put, List.setIfInBounds_toArray, List.set_cons_zero, List.set_cons_succ])
        refine wpAnyH_take (i := 5) (oi := ?oTT5) (v := ?vTT5) ?hiTT5 (by kernel_rfl) (by kernel_rfl) (by kernel_rfl) (fun _ _ _ h => h) (Or.inl ⟨?wTT5, ?yTT5⟩) (by assumption) ?rTT5
        case hiTT5 => (simp only [List.getElem?_toArray, List.getElem?_cons_succ, List.getElem?_cons_zero]; try rfl)
        case wTT5 => rfl
        case yTT5 => (intro w hSw; (try dsimp only at hSw); go_simp; (try with_reducible rfl))
        (try simp only [Act.put, List.setIfInBounds_toArray, List.set_cons_zero, List.set_cons_succ])
        refine wpAnyH_done (by kernel_rfl) ?_ _
        refine NoPanic.normal ?_
        have e9 := fun W => eqSl (some ⟨gP, 0, none⟩) 21 cpP W
        have e10 := fun W => eqSl (some ⟨gQ, 0, none⟩) 21 cpQ W
        have n10 := fun W => neSl (some ⟨gQ, 0, none⟩) 21 cpQ W
        simp only [Option.isNone_some] at e9
        simp only [Option.isNone_some] at e10
        simp only [Option.isNone_some, Bool.not_false] at n10
        have HV : Hid (∀ W, Keep NoF wB W → (convert 24 9 (.slice (some ⟨gP, 0, none⟩) 21 cpP)).run Tryz.prog W = .ok (.string (bstr A)) W ∧ (convert 24 9 (.slice (some ⟨gQ, 0, none⟩) 21 cpQ)).run Tryz.prog W = .ok (.string (bstr A2)) W) := Lib.hid fun W hW => ⟨conv_at (HSP.out.keep (hkAB.trans' hW) (fun _ _ f => f)) HPL.out, conv_at (HSQ.out.keep hW (fun _ _ f => f)) HQL.out⟩
        have hv0 := And.intro (HC.out wB.drew KwB.out.drew) (HV.out wB.drew (Keep.refl NoF wB).drew)
        go_upto_region 14 with fail
        cases s
        · refine wp_region_noPanic ?_
          refine wp_region_held_drew (S := (fun W' : World => ((W'.cell? ⟨B, 0, none⟩ = some (.int .i64 k) ∧ W'.cell? ⟨B, 1, none⟩ = some (.int .i64 f) ∧ W'.cell? ⟨B, 2, none⟩ = some (.int .i64 t) ∧ W'.cell? ⟨B, 3, none⟩ = some (.int .i64 d) ∧ W'.cell? ⟨B, 4, none⟩ = some (.int .i64 n) ∧ W'.cell? ⟨B, 5, none⟩ = some (.bool y)) ∧ (W'.cell? ⟨C, 0, none⟩ = some (.int .i64 qk) ∧ W'.cell? ⟨C, 1, none⟩ = some (.int .i64 qf) ∧ W'.cell? ⟨C, 2, none⟩ = some (.int .i64 qt) ∧ W'.cell? ⟨C, 3, none⟩ = some (.int .i64 qd) ∧ W'.cell? ⟨C, 4, none⟩ = some (.int .i64 qn) ∧ W'.cell? ⟨C, 5, none⟩ = some (.bool qy))) ∧ ((convert 24 9 (.slice (some ⟨gP, 0, none⟩) 21 cpP)).run Tryz.prog W' = .ok (.string (bstr A)) W' ∧ (convert 24 9 (.slice (some ⟨gQ, 0, none⟩) 21 cpQ)).run Tryz.prog W' = .ok (.string (bstr A2)) W'))) (by kernel_rfl) (hv0) (fun hHeld => ?_)
          refine wpAnyH_take (i := 0) (oi := ?oTTrF0) (v := ?vTTrF0) ?hiTTrF0 (by kernel_rfl) (by kernel_rfl) (by kernel_rfl) (fun _ _ _ h => h) (Or.inl ⟨?wTTrF0, ?yTTrF0⟩) (by assumption) ?rTTrF0
          case hiTTrF0 => (simp only [List.getElem?_toArray, List.getElem?_cons_zero]; try rfl)
          case wTTrF0 => rfl
          case yTTrF0 => (intro w hSw; (try dsimp only at hSw); go_simp; (try with_reducible rfl))
          (try simp only [Act.put, List.setIfInBounds_toArray, List.set_cons_zero, List.set_cons_succ])
          refine wpAnyH_take (i := 1) (oi := ?oTTrF1) (v := ?vTTrF1) ?hiTTrF1 (by kernel_rfl) (by kernel_rfl) (by kernel_rfl) (fun _ _ _ h => h) (Or.inl ⟨?wTTrF1, ?yTTrF1⟩) (by assumption) ?rTTrF1
          case hiTTrF1 => (simp only [List.getElem?_toArray, List.getElem?_cons_succ, List.getElem?_cons_zero]; try rfl)
          case wTTrF1 => rfl
          case yTTrF1 => (intro w hSw; (try dsimp only at hSw); go_simp; (try with_reducible rfl))
          (try simp only [Act.put, List.setIfInBounds_toArray, List.set_cons_zero, List.set_cons_succ])
          refine wpAnyH_take (i := 2) (oi := ?oTTrF2) (v := ?vTTrF2) ?hiTTrF2 (by kernel_rfl) (by kernel_rfl) (by kernel_rfl) (fun _ _ _ h => h) (Or.inl ⟨?wTTrF2, ?yTTrF2⟩) (by assumption) ?rTTrF2
          case hiTTrF2 => (simp only [List.getElem?_toArray, List.getElem?_cons_succ, List.getElem?_cons_zero]; try rfl)
          case wTTrF2 => rfl
          case yTTrF2 => (intro w hSw; (try dsimp only at hSw); go_simp; (try with_reducible rfl))
          (try simp only [Act.put, List.setIfInBounds_toArray, List.set_cons_zero, List.set_cons_succ])
          refine wpAnyH_ready (rs := [3]) (by kernel_rfl) (by simp) ?_
          refine AllReadyH.cons (o := ?oTTrF3) ?hiTTrF3 (fun K hK => ?_) AllReadyH.nil
          case hiTTrF3 => (simp only [List.getElem?_toArray, List.getElem?_cons_succ, List.getElem?_cons_zero]; try rfl)
          go_simp
          (go_at_call 16; refine (HRK2.out _).mono ?_; rintro e wC ⟨rfl, hkC⟩; have KwC : Hid (Keep NoF wB wC) := Lib.hid hkC.of_drew; clear hkC)
          go_wp2_with fail
          refine hK.out _ _ (And.intro (HC.out _ (KwB.out.trans' KwC.out)) (HV.out _ KwC.out)) (fun hHeld => ?_)
          clear hK K
          (try simp only [Act.put, List.setIfInBounds_toArray, List.set_cons_zero, List.set_cons_succ])
          refine wpAnyH_take (i := 4) (oi := ?oTTrF4) (v := ?vTTrF4) ?hiTTrF4 (by kernel_rfl) (by kernel_rfl) (by kernel_rfl) (fun _ _ _ h => h) (Or.inl ⟨?wTTrF4, ?yTTrF4⟩) (by assumption) ?rTTrF4
          case hiTTrF4 => (simp only [List.getElem?_toArray, List.getElem?_cons_succ, List.getElem?_cons_zero]; try rfl)
          case wTTrF4 => rfl
          case yTTrF4 => (intro w hSw; (try dsimp only at hSw); go_simp; (try with_reducible rfl))
          (try simp only [Act.put, List.setIfInBounds_toArray, List.set_cons_zero, List.set_cons_succ])
          refine wpAnyH_take (i := 5) (oi := ?oTTrF5) (v := ?vTTrF5) ?hiTTrF5 (by kernel_rfl) (by kernel_rfl) (by kernel_rfl) (fun _ _ _ h => h) (Or.inl ⟨?wTTrF5, ?yTTrF5⟩) (by assumption) ?rTTrF5
          case hiTTrF5 => (simp only [List.getElem?_toArray, List.getElem?_cons_succ, List.getElem?_cons_zero]; try rfl)
          case wTTrF5 => rfl
          case yTTrF5 => (intro w hSw; (try dsimp only at hSw); go_simp; (try with_reducible rfl))
          (try simp only [Act.put, List.setIfInBounds_toArray, List.set_cons_zero, List.set_cons_succ])
          refine wpAnyH_take (i := 6) (oi := ?oTTrF6) (v := ?vTTrF6) ?hiTTrF6 (by kernel_rfl) (by kernel_rfl) (by kernel_rfl) (fun _ _ _ h => h) (Or.inl ⟨?wTTrF6, ?yTTrF6⟩) (by assumption) ?rTTrF6
          case hiTTrF6 => (simp only [List.getElem?_toArray, List.getElem?_cons_succ, List.getElem?_cons_zero]; try rfl)
          case wTTrF6 => rfl
          case yTTrF6 => (intro w hSw; (try dsimp only at hSw); go_simp; (try with_reducible rfl))
          (try simp only [Act.put, List.setIfInBounds_toArray, List.set_cons_zero, List.set_cons_succ])
          refine wpAnyH_take (i := 7) (oi := ?oTTrF7) (v := ?vTTrF7) ?hiTTrF7 (by kernel_rfl) (by kernel_rfl) (by kernel_rfl) (fun _ _ _ h => h) (Or.inl ⟨?wTTrF7, ?yTTrF7⟩) (by assumption) ?rTTrF7
          case hiTTrF7 => (simp only [List.getElem?_toArray, List.getElem?_cons_succ, List.getElem?_cons_zero]; try rfl)
          case wTTrF7 => rfl
          case yTTrF7 => (intro w hSw; (try dsimp only at hSw); go_simp; (try with_reducible rfl))
          (try simp only [Act.put, List.setIfInBounds_toArray, List.set_cons_zero, List.set_cons_succ])
          refine wpAnyH_take (i := 8) (oi := ?oTTrF8) (v := ?vTTrF8) ?hiTTrF8 (by kernel_rfl) (by kernel_rfl) (by kernel_rfl) (fun _ _ _ h => h) (Or.inl ⟨?wTTrF8, ?yTTrF8⟩) (by assumption) ?rTTrF8
          case hiTTrF8 => (simp only [List.getElem?_toArray, List.getElem?_cons_succ, List.getElem?_cons_zero]; try rfl)
          case wTTrF8 => rfl
          case yTTrF8 => (intro w hSw; (try dsimp only at hSw); go_simp; (try with_reducible rfl))
          (try simp only [Act.put, List.setIfInBounds_toArray, List.set_cons_zero, List.set_cons_succ])
          refine wpAnyH_take (i := 9) (oi := ?oTTrF9) (v := ?vTTrF9) ?hiTTrF9 (by kernel_rfl) (by kernel_rfl) (by kernel_rfl) (fun _ _ _ h => h) (Or.inl ⟨?wTTrF9, ?yTTrF9⟩) (by assumption) ?rTTrF9
          case hiTTrF9 => (simp only [List.getElem?_toArray, List.getElem?_cons_succ, List.getElem?_cons_zero]; try rfl)
          case wTTrF9 => rfl
          case yTTrF9 => (intro w hSw; (try dsimp only at hSw); go_simp; (try with_reducible rfl))
          (try simp only [Act.put, List.setIfInBounds_toArray, List.set_cons_zero, List.set_cons_succ])
          refine wpAnyH_take (i := 10) (oi := ?oTTrF10) (v := ?vTTrF10) ?hiTTrF10 (by kernel_rfl) (by kernel_rfl) (by kernel_rfl) (fun _ _ _ h => h) (Or.inl ⟨?wTTrF10, ?yTTrF10⟩) (by assumption) ?rTTrF10
          case hiTTrF10 => (simp only [List.getElem?_toArray, List.getElem?_cons_succ, List.getElem?_cons_zero]; try rfl)
          case wTTrF10 => rfl
          case yTTrF10 => (intro w hSw; (try dsimp only at hSw); go_simp; (try with_reducible rfl))
          (try simp only [Act.put, List.setIfInBounds_toArray, List.set_cons_zero, List.set_cons_succ])
          refine wpAnyH_take (i := 11) (oi := ?oTTrF11) (v := ?vTTrF11) ?hiTTrF11 (by kernel_rfl) (by kernel_rfl) (by kernel_rfl) (fun _ _ _ h => h) (Or.inl ⟨?wTTrF11, ?yTTrF11⟩) (by assumption) ?rTTrF11
          case hiTTrF11 => (simp only [List.getElem?_toArray, List.getElem?_cons_succ, List.getElem?_cons_zero]; try rfl)
          case wTTrF11 => rfl
          case yTTrF11 => (intro w hSw; (try dsimp only at hSw); go_simp; (try with_reducible rfl))
          (try simp only [Act.put, List.setIfInBounds_toArray, List.set_cons_zero, List.set_cons_succ])
          refine wpAnyH_take (i := 12) (oi := ?oTTrF12) (v := ?vTTrF12) ?hiTTrF12 (by kernel_rfl) (by kernel_rfl) (by kernel_rfl) (fun _ _ _ h => h) (Or.inl ⟨?wTTrF12, ?yTTrF12⟩) (by assumption) ?rTTrF12
          case hiTTrF12 => (simp only [List.getElem?_toArray, List.getElem?_cons_succ, List.getElem?_cons_zero]; try rfl)
          case wTTrF12 => rfl
          case yTTrF12 => (intro w hSw; (try dsimp only at hSw); go_simp; (try with_reducible rfl))
          (try simp only [Act.put, List.setIfInBounds_toArray, List.set_cons_zero, List.set_cons_succ])
          refine wpAnyH_take (i := 13) (oi := ?oTTrF13) (v := ?vTTrF13) ?hiTTrF13 (by kernel_rfl) (by kernel_rfl) (by kernel_rfl) (fun _ _ _ h => h) (Or.inl ⟨?wTTrF13, ?yTTrF13⟩) (by assumption) ?rTTrF13
          case hiTTrF13 => (simp only [List.getElem?_toArray, List.getElem?_cons_succ, List.getElem?_cons_zero]; try rfl)
          case wTTrF13 => rfl
          case yTTrF13 => (intro w hSw; (try dsimp only at hSw); go_simp; (try with_reducible rfl))
          (try simp only [Act.put, List.setIfInBounds_toArray, List.set_cons_zero, List.set_cons_succ])
          refine wpAnyH_take (i := 14) (oi := ?oTTrF14) (v := ?vTTrF14) ?hiTTrF14 (by kernel_rfl) (by kernel_rfl) (by kernel_rfl) (fun _ _ _ h => h) (Or.inl ⟨?wTTrF14, ?yTTrF14⟩) (by assumption) ?rTTrF14
          case hiTTrF14 => (simp only [List.getElem?_toArray, List.getElem?_cons_succ, List.getElem?_cons_zero]; try rfl)
          case wTTrF14 => rfl
          case yTTrF14 => (intro w hSw; (try dsimp only at hSw); go_simp; (try with_reducible rfl))
          (try simp only [Act.put, List.setIfInBounds_toArray, List.set_cons_zero, List.set_cons_succ])
          refine wpAnyH_take (i := 15) (oi := ?oTTrF15) (v := ?vTTrF15) ?hiTTrF15 (by kernel_rfl) (by kernel_rfl) (by kernel_rfl) (fun _ _ _ h => h) (Or.inl ⟨?wTTrF15, ?yTTrF15⟩) (by assumption) ?rTTrF15
          case hiTTrF15 => (simp only [List.getElem?_toArray, List.getElem?_cons_succ, List.getElem?_cons_zero]; try rfl)
          case wTTrF15 => rfl
          case yTTrF15 => (intro w hSw; (try dsimp only at hSw); go_simp; (try with_reducible rfl))
          (try simp only [Act.put, List.setIfInBounds_toArray, List.set_cons_zero, List.set_cons_succ])
          refine wpAnyH_take (i := 16) (oi := ?oTTrF16) (v := ?vTTrF16) ?hiTTrF16 (by kernel_rfl) (by kernel_rfl) (by kernel_rfl) (fun _ _ _ h => h) (Or.inl ⟨?wTTrF16, ?yTTrF16⟩) (by assumption) ?rTTrF16
          case hiTTrF16 => (simp only [List.getElem?_toArray, List.getElem?_cons_succ, List.getElem?_cons_zero]; try rfl)
          case wTTrF16 => rfl
          case yTTrF16 => (intro w hSw; (try dsimp only at hSw); go_simp; (try with_reducible rfl))
          (try simp only [Act.put, List.setIfInBounds_toArray, List.set_cons_zero, List.set_cons_succ])
          refine wpAnyH_take (i := 17) (oi := ?oTTrF17) (v := ?vTTrF17) ?hiTTrF17 (by kernel_rfl) (by kernel_rfl) (by kernel_rfl) (fun _ _ _ h => h) (Or.inl ⟨?wTTrF17, ?yTTrF17⟩) (by assumption) ?rTTrF17
          case hiTTrF17 => (simp only [List.getElem?_toArray, List.getElem?_cons_succ, List.getElem?_cons_zero]; try rfl)
          case wTTrF17 => rfl
          case yTTrF17 => (intro w hSw; (try dsimp only at hSw); go_simp; (try with_reducible rfl))
          (try simp only [Act.put, List.setIfInBounds_toArray, List.set_cons_zero, List.set_cons_succ])
          refine wpAnyH_take (i := 18) (oi := ?oTTrF18) (v := ?vTTrF18) ?hiTTrF18 (by kernel_rfl) (by kernel_rfl) (by kernel_rfl) (fun _ _ _ h => h) (Or.inl ⟨?wTTrF18, ?yTTrF18⟩) (by assumption) ?rTTrF18
          case hiTTrF18 => (simp only [List.getElem?_toArray, List.getElem?_cons_succ, List.getElem?_cons_zero]; try rfl)
          case wTTrF18 => rfl
          case yTTrF18 => (intro w hSw; (try dsimp only at hSw); go_simp; (try with_reducible rfl))
          (try simp only [Act.put, List.setIfInBounds_toArray, List.set_cons_zero, List.set_cons_succ])
          refine wpAnyH_take (i := 19) (oi := ?oTTrF19) (v := ?vTTrF19) ?hiTTrF19 (by kernel_rfl) (by kernel_rfl) (by kernel_rfl) (fun _ _ _ h => h) (Or.inl ⟨?wTTrF19, ?yTTrF19⟩) (by assumption) ?rTTrF19
          case hiTTrF19 => (simp only [List.getElem?_toArray, List.getElem?_cons_succ, List.getElem?_cons_zero]; try rfl)
          case wTTrF19 => rfl
          case yTTrF19 => (intro w hSw; (try dsimp only at hSw); go_simp; (try with_reducible rfl))
          (try simp only [Act.put, List.setIfInBounds_toArray, List.set_cons_zero, List.set_cons_succ])
          refine wpAnyH_take (i := 20) (oi := ?oTTrF20) (v := ?vTTrF20) ?hiTTrF20 (by kernel_rfl) (by kernel_rfl) (by kernel_rfl) (fun _ _ _ h => h) (Or.inl ⟨?wTTrF20, ?yTTrF20⟩) (by assumption) ?rTTrF20
          case hiTTrF20 => (simp only [List.getElem?_toArray, List.getElem?_cons_succ, List.getElem?_cons_zero]; try rfl)
          case wTTrF20 => rfl
          case yTTrF20 => (intro w hSw; (try dsimp only at hSw); go_simp; refine (HEQ.out _).trans ?_; rw [if_neg Bool.false_ne_true])
          (try simp only [Act.put, List.setIfInBounds_toArray, List.set_cons_zero, List.set_cons_succ])
          refine wpAnyH_take (i := 21) (oi := ?oTTrF21) (v := ?vTTrF21) ?hiTTrF21 (by kernel_rfl) (by kernel_rfl) (by kernel_rfl) (fun _ _ _ h => h) (Or.inl ⟨?wTTrF21, ?yTTrF21⟩) (by assumption) ?rTTrF21
          case hiTTrF21 => (simp only [List.getElem?_toArray, List.getElem?_cons_succ, List.getElem?_cons_zero]; try rfl)
          case wTTrF21 => rfl
          case yTTrF21 => (intro w hSw; (try dsimp only at hSw); go_simp; (try with_reducible rfl))
          (try simp only [Act.put, List.setIfInBounds_toArray, List.set_cons_zero, List.set_cons_succ])
          refine wpAnyH_take (i := 22) (oi := ?oTTrF22) (v := ?vTTrF22) ?hiTTrF22 (by kernel_rfl) (by kernel_rfl) (by kernel_rfl) (fun _ _ _ h => h) (Or.inl ⟨?wTTrF22, ?yTTrF22⟩) (by assumption) ?rTTrF22
          case hiTTrF22 => (simp only [List.getElem?_toArray, List.getElem?_cons_succ, List.getElem?_cons_zero]; try rfl)
          case wTTrF22 => rfl
          case yTTrF22 => (intro w hSw; (try dsimp only at hSw); go_simp; (try with_reducible rfl))
          (try simp only [Act.put, List.setIfInBounds_toArray, List.set_cons_zero, List.set_cons_succ])
          refine wpAnyH_take (i := 23) (oi := ?oTTrF23) (v := ?vTTrF23) ?hiTTrF23 (by kernel_rfl) (by kernel_rfl) (by kernel_rfl) (fun _ _ _ h => h) (Or.inl ⟨?wTTrF23, ?yTTrF23⟩) (by assumption) ?rTTrF23
          case hiTTrF23 => (simp only [List.getElem?_toArray, List.getElem?_cons_succ, List.getElem?_cons_zero]; try rfl)
          case wTTrF23 => rfl
          case yTTrF23 => (intro w hSw; (try dsimp only at hSw); go_simp; (try with_reducible rfl))
          (try simp only [Act.put, List.setIfInBounds_toArray, List.set_cons_zero, List.set_cons_succ])
          refine wpAnyH_take (i := 24) (oi := ?oTTrF24) (v := ?vTTrF24) ?hiTTrF24 (by kernel_rfl) (by kernel_rfl) (by kernel_rfl) (fun _ _ _ h => h) (Or.inl ⟨?wTTrF24, ?yTTrF24⟩) (by assumption) ?rTTrF24
          case hiTTrF24 => (simp only [List.getElem?_toArray, List.getElem?_cons_succ, List.getElem?_cons_zero]; try rfl)
          case wTTrF24 => rfl
          case yTTrF24 => (intro w hSw; (try dsimp only at hSw); go_simp; (try with_reducible rfl))
          (try simp only [Act.put, List.setIfInBounds_toArray, List.set_cons_zero, List.set_cons_succ])
          refine wpAnyH_done (by kernel_rfl) ?_ _
          refine NoPanic.normal ?_
          go_wp2_with fail
          go_ret
          exact ⟨rfl, K3.out.trans' (KwB.out.trans' KwC.out)⟩
        · refine wp_region_noPanic ?_
          refine wp_region_held_drew (S := (fun W' : World => ((W'.cell? ⟨B, 0, none⟩ = some (.int .i64 k) ∧ W'.cell? ⟨B, 1, none⟩ = some (.int .i64 f) ∧ W'.cell? ⟨B, 2, none⟩ = some (.int .i64 t) ∧ W'.cell? ⟨B, 3, none⟩ = some (.int .i64 d) ∧ W'.cell? ⟨B, 4, none⟩ = some (.int .i64 n) ∧ W'.cell? ⟨B, 5, none⟩ = some (.bool y)) ∧ (W'.cell? ⟨C, 0, none⟩ = some (.int .i64 qk) ∧ W'.cell? ⟨C, 1, none⟩ = some (.int .i64 qf) ∧ W'.cell? ⟨C, 2, none⟩ = some (.int .i64 qt) ∧ W'.cell? ⟨C, 3, none⟩ = some (.int .i64 qd) ∧ W'.cell? ⟨C, 4, none⟩ = some (.int .i64 qn) ∧ W'.cell? ⟨C, 5, none⟩ = some (.bool qy))) ∧ ((convert 24 9 (.slice (some ⟨gP, 0, none⟩) 21 cpP)).run Tryz.prog W' = .ok (.string (bstr A)) W' ∧ (convert 24 9 (.slice (some ⟨gQ, 0, none⟩) 21 cpQ)).run Tryz.prog W' = .ok (.string (bstr A2)) W'))) (by kernel_rfl) (hv0) (fun hHeld => ?_)
          refine wpAnyH_take (i := 0) (oi := ?oTTrT0) (v := ?vTTrT0) ?hiTTrT0 (by kernel_rfl) (by kernel_rfl) (by kernel_rfl) (fun _ _ _ h => h) (Or.inl ⟨?wTTrT0, ?yTTrT0⟩) (by assumption) ?rTTrT0
          case hiTTrT0 => (simp only [List.getElem?_toArray, List.getElem?_cons_zero]; try rfl)
          case wTTrT0 => rfl
          case yTTrT0 => (intro w hSw; (try dsimp only at hSw); go_simp; (try with_reducible rfl))
          (try simp only [Act.put, List.setIfInBounds_toArray, List.set_cons_zero, List.set_cons_succ])
          refine wpAnyH_take (i := 1) (oi := ?oTTrT1) (v := ?vTTrT1) ?hiTTrT1 (by kernel_rfl) (by kernel_rfl) (by kernel_rfl) (fun _ _ _ h => h) (Or.inl ⟨?wTTrT1, ?yTTrT1⟩) (by assumption) ?rTTrT1
          case hiTTrT1 => (simp only [List.getElem?_toArray, List.getElem?_cons_succ, List.getElem?_cons_zero]; try rfl)
          case wTTrT1 => rfl
          case yTTrT1 => (intro w hSw; (try dsimp only at hSw); go_simp; (try with_reducible rfl))
          (try simp only [Act.put, List.setIfInBounds_toArray, List.set_cons_zero, List.set_cons_succ])
          refine wpAnyH_take (i := 2) (oi := ?oTTrT2) (v := ?vTTrT2) ?hiTTrT2 (by kernel_rfl) (by kernel_rfl) (by kernel_rfl) (fun _ _ _ h => h) (Or.inl ⟨?wTTrT2, ?yTTrT2⟩) (by assumption) ?rTTrT2
          case hiTTrT2 => (simp only [List.getElem?_toArray, List.getElem?_cons_succ, List.getElem?_cons_zero]; try rfl)
          case wTTrT2 => rfl
          case yTTrT2 => (intro w hSw; (try dsimp only at hSw); go_simp; (try with_reducible rfl))
          (try simp only [Act.put, List.setIfInBounds_toArray, List.set_cons_zero, List.set_cons_succ])
          refine wpAnyH_ready (rs := [3]) (by kernel_rfl) (by simp) ?_
          refine AllReadyH.cons (o := ?oTTrT3) ?hiTTrT3 (fun K hK => ?_) AllReadyH.nil
          case hiTTrT3 => (simp only [List.getElem?_toArray, List.getElem?_cons_succ, List.getElem?_cons_zero]; try rfl)
          go_simp
          (go_at_call 16; refine (HRK2.out _).mono ?_; rintro e wC ⟨rfl, hkC⟩; have KwC : Hid (Keep NoF wB wC) := Lib.hid hkC.of_drew; clear hkC)
          go_wp2_with fail
          refine hK.out _ _ (And.intro (HC.out _ (KwB.out.trans' KwC.out)) (HV.out _ KwC.out)) (fun hHeld => ?_)
          clear hK K
          (try simp only [Act.put, List.setIfInBounds_toArray, List.set_cons_zero, List.set_cons_succ])
          refine wpAnyH_take (i := 4) (oi := ?oTTrT4) (v := ?vTTrT4) ?hiTTrT4 (by kernel_rfl) (by kernel_rfl) (by kernel_rfl) (fun _ _ _ h => h) (Or.inl ⟨?wTTrT4, ?yTTrT4⟩) (by assumption) ?rTTrT4
          case hiTTrT4 => (simp only [List.getElem?_toArray, List.getElem?_cons_succ, List.getElem?_cons_zero]; try rfl)
          case wTTrT4 => rfl
          case yTTrT4 => (intro w hSw; (try dsimp only at hSw); go_simp; (try with_reducible rfl))
          (try simp only [Act.put, List.setIfInBounds_toArray, List.set_cons_zero, List.set_cons_succ])
          refine wpAnyH_take (i := 5) (oi := ?oTTrT5) (v := ?vTTrT5) ?hiTTrT5 (by kernel_rfl) (by kernel_rfl) (by kernel_rfl) (fun _ _ _ h => h) (Or.inl ⟨?wTTrT5, ?yTTrT5⟩) (by assumption) ?rTTrT5
          case hiTTrT5 => (simp only [List.getElem?_toArray, List.getElem?_cons_succ, List.getElem?_cons_zero]; try rfl)
          case wTTrT5 => rfl
          case yTTrT5 => (intro w hSw; (try dsimp only at hSw); go_simp; (try with_reducible rfl))
          (try simp only [Act.put, List.setIfInBounds_toArray, List.set_cons_zero, List.set_cons_succ])
          refine wpAnyH_take (i := 6) (oi := ?oTTrT6) (v := ?vTTrT6) ?hiTTrT6 (by kernel_rfl) (by kernel_rfl) (by kernel_rfl) (fun _ _ _ h => h) (Or.inl ⟨?wTTrT6, ?yTTrT6⟩) (by assumption) ?rTTrT6
          case hiTTrT6 => (simp only [List.getElem?_toArray, List.getElem?_cons_succ, List.getElem?_cons_zero]; try rfl)
          case wTTrT6 => rfl
          case yTTrT6 => (intro w hSw; (try dsimp only at hSw); go_simp; (try with_reducible rfl))
          (try simp only [Act.put, List.setIfInBounds_toArray, List.set_cons_zero, List.set_cons_succ])
          refine wpAnyH_take (i := 7) (oi := ?oTTrT7) (v := ?vTTrT7) ?hiTTrT7 (by kernel_rfl) (by kernel_rfl) (by kernel_rfl) (fun _ _ _ h => h) (Or.inl ⟨?wTTrT7, ?yTTrT7⟩) (by assumption) ?rTTrT7
          case hiTTrT7 => (simp only [List.getElem?_toArray, List.getElem?_cons_succ, List.getElem?_cons_zero]; try rfl)
          case wTTrT7 => rfl
          case yTTrT7 => (intro w hSw; (try dsimp only at hSw); go_simp; (try with_reducible rfl))
          (try simp only [Act.put, List.setIfInBounds_toArray, List.set_cons_zero, List.set_cons_succ])
          refine wpAnyH_take (i := 8) (oi := ?oTTrT8) (v := ?vTTrT8) ?hiTTrT8 (by kernel_rfl) (by kernel_rfl) (by kernel_rfl) (fun _ _ _ h => h) (Or.inl ⟨?wTTrT8, ?yTTrT8⟩) (by assumption) ?rTTrT8
          case hiTTrT8 => (simp only [List.getElem?_toArray, List.getElem?_cons_succ, List.getElem?_cons_zero]; try rfl)
          case wTTrT8 => rfl
          case yTTrT8 => (intro w hSw; (try dsimp only at hSw); go_simp; (try with_reducible rfl))
          (try simp only [Act.put, List.setIfInBounds_toArray, List.set_cons_zero, List.set_cons_succ])
          refine wpAnyH_take (i := 9) (oi := ?oTTrT9) (v := ?vTTrT9) ?hiTTrT9 (by kernel_rfl) (by kernel_rfl) (by kernel_rfl) (fun _ _ _ h => h) (Or.inl ⟨?wTTrT9, ?yTTrT9⟩) (by assumption) ?rTTrT9
          case hiTTrT9 => (simp only [List.getElem?_toArray, List.getElem?_cons_succ, List.getElem?_cons_zero]; try rfl)
          case wTTrT9 => rfl
          case yTTrT9 => (intro w hSw; (try dsimp only at hSw); go_simp; (try with_reducible rfl))
          (try simp only [Act.put, List.setIfInBounds_toArray, List.set_cons_zero, List.set_cons_succ])
          refine wpAnyH_take (i := 10) (oi := ?oTTrT10) (v := ?vTTrT10) ?hiTTrT10 (by kernel_rfl) (by kernel_rfl) (by kernel_rfl) (fun _ _ _ h => h) (Or.inl ⟨?wTTrT10, ?yTTrT10⟩) (by assumption) ?rTTrT10
          case hiTTrT10 => (simp only [List.getElem?_toArray, List.getElem?_cons_succ, List.getElem?_cons_zero]; try rfl)
          case wTTrT10 => rfl
          case yTTrT10 => (intro w hSw; (try dsimp only at hSw); go_simp; (try with_reducible rfl))
          (try simp only [Act.put, List.setIfInBounds_toArray, List.set_cons_zero, List.set_cons_succ])
          refine wpAnyH_take (i := 11) (oi := ?oTTrT11) (v := ?vTTrT11) ?hiTTrT11 (by kernel_rfl) (by kernel_rfl) (by kernel_rfl) (fun _ _ _ h => h) (Or.inl ⟨?wTTrT11, ?yTTrT11⟩) (by assumption) ?rTTrT11
          case hiTTrT11 => (simp only [List.getElem?_toArray, List.getElem?_cons_succ, List.getElem?_cons_zero]; try rfl)
          case wTTrT11 => rfl
          case yTTrT11 => (intro w hSw; (try dsimp only at hSw); go_simp; (try with_reducible rfl))
          (try simp only [Act.put, List.setIfInBounds_toArray, List.set_cons_zero, List.set_cons_succ])
          refine wpAnyH_take (i := 12) (oi := ?oTTrT12) (v := ?vTTrT12) ?hiTTrT12 (by kernel_rfl) (by kernel_rfl) (by kernel_rfl) (fun _ _ _ h => h) (Or.inl ⟨?wTTrT12, ?yTTrT12⟩) (by assumption) ?rTTrT12
          case hiTTrT12 => (simp only [List.getElem?_toArray, List.getElem?_cons_succ, List.getElem?_cons_zero]; try rfl)
          case wTTrT12 => rfl
          case yTTrT12 => (intro w hSw; (try dsimp only at hSw); go_simp; (try with_reducible rfl))
          (try simp only [Act.put, List.setIfInBounds_toArray, List.set_cons_zero, List.set_cons_succ])
          refine wpAnyH_take (i := 13) (oi := ?oTTrT13) (v := ?vTTrT13) ?hiTTrT13 (by kernel_rfl) (by kernel_rfl) (by kernel_rfl) (fun _ _ _ h => h) (Or.inl ⟨?wTTrT13, ?yTTrT13⟩) (by assumption) ?rTTrT13
          case hiTTrT13 => (simp only [List.getElem?_toArray, List.getElem?_cons_succ, List.getElem?_cons_zero]; try rfl)
          case wTTrT13 => rfl
          case yTTrT13 => (intro w hSw; (try dsimp only at hSw); go_simp; (try with_reducible rfl))
          (try simp only [Act.put, List.setIfInBounds_toArray, List.set_cons_zero, List.set_cons_succ])
          refine wpAnyH_take (i := 14) (oi := ?oTTrT14) (v := ?vTTrT14) ?hiTTrT14 (by kernel_rfl) (by kernel_rfl) (by kernel_rfl) (fun _ _ _ h => h) (Or.inl ⟨?wTTrT14, ?yTTrT14⟩) (by assumption) ?rTTrT14
          case hiTTrT14 => (simp only [List.getElem?_toArray, List.getElem?_cons_succ, List.getElem?_cons_zero]; try rfl)
          case wTTrT14 => rfl
          case yTTrT14 => (intro w hSw; (try dsimp only at hSw); go_simp; (try with_reducible rfl))
          (try simp only [Act.put, List.setIfInBounds_toArray, List.set_cons_zero, List.set_cons_succ])
          refine wpAnyH_take (i := 15) (oi := ?oTTrT15) (v := ?vTTrT15) ?hiTTrT15 (by kernel_rfl) (by kernel_rfl) (by kernel_rfl) (fun _ _ _ h => h) (Or.inl ⟨?wTTrT15, ?yTTrT15⟩) (by assumption) ?rTTrT15
          case hiTTrT15 => (simp only [List.getElem?_toArray, List.getElem?_cons_succ, List.getElem?_cons_zero]; try rfl)
          case wTTrT15 => rfl
          case yTTrT15 => (intro w hSw; (try dsimp only at hSw); go_simp; (try with_reducible rfl))
          (try simp only [Act.put, List.setIfInBounds_toArray, List.set_cons_zero, List.set_cons_succ])
          refine wpAnyH_take (i := 16) (oi := ?oTTrT16) (v := ?vTTrT16) ?hiTTrT16 (by kernel_rfl) (by kernel_rfl) (by kernel_rfl) (fun _ _ _ h => h) (Or.inl ⟨?wTTrT16, ?yTTrT16⟩) (by assumption) ?rTTrT16
          case hiTTrT16 => (simp only [List.getElem?_toArray, List.getElem?_cons_succ, List.getElem?_cons_zero]; try rfl)
          case wTTrT16 => rfl
          case yTTrT16 => (intro w hSw; (try dsimp only at hSw); go_simp; (try with_reducible rfl))
          (try simp only [Act.put, List.setIfInBounds_toArray, List.set_cons_zero, List.set_cons_succ])
          refine wpAnyH_take (i := 17) (oi := ?oTTrT17) (v := ?vTTrT17) ?hiTTrT17 (by kernel_rfl) (by kernel_rfl) (by kernel_rfl) (fun _ _ _ h => h) (Or.inl ⟨?wTTrT17, ?yTTrT17⟩) (by assumption) ?rTTrT17
          case hiTTrT17 => (simp only [List.getElem?_toArray, List.getElem?_cons_succ, List.getElem?_cons_zero]; try rfl)
          case wTTrT17 => rfl
          case yTTrT17 => (intro w hSw; (try dsimp only at hSw); go_simp; (try with_reducible rfl))
          (try simp only [Act.put, List.setIfInBounds_toArray, List.set_cons_zero, List.set_cons_succ])
          refine wpAnyH_take (i := 18) (oi := ?oTTrT18) (v := ?vTTrT18) ?hiTTrT18 (by kernel_rfl) (by kernel_rfl) (by kernel_rfl) (fun _ _ _ h => h) (Or.inl ⟨?wTTrT18, ?yTTrT18⟩) (by assumption) ?rTTrT18
          case hiTTrT18 => (simp only [List.getElem?_toArray, List.getElem?_cons_succ, List.getElem?_cons_zero]; try rfl)
          case wTTrT18 => rfl
          case yTTrT18 => (intro w hSw; (try dsimp only at hSw); go_simp; (try with_reducible rfl))
          (try simp only [Act.put, List.setIfInBounds_toArray, List.set_cons_zero, List.set_cons_succ])
          refine wpAnyH_take (i := 19) (oi := ?oTTrT19) (v := ?vTTrT19) ?hiTTrT19 (by kernel_rfl) (by kernel_rfl) (by kernel_rfl) (fun _ _ _ h => h) (Or.inl ⟨?wTTrT19, ?yTTrT19⟩) (by assumption) ?rTTrT19
          case hiTTrT19 => (simp only [List.getElem?_toArray, List.getElem?_cons_succ, List.getElem?_cons_zero]; try rfl)
          case wTTrT19 => rfl
          case yTTrT19 => (intro w hSw; (try dsimp only at hSw); go_simp; (try with_reducible rfl))
          (try simp only [Act.put, List.setIfInBounds_toArray, List.set_cons_zero, List.set_cons_succ])
          refine wpAnyH_take (i := 20) (oi := ?oTTrT20) (v := ?vTTrT20) ?hiTTrT20 (by kernel_rfl) (by kernel_rfl) (by kernel_rfl) (fun _ _ _ h => h) (Or.inl ⟨?wTTrT20, ?yTTrT20⟩) (by assumption) ?rTTrT20
          case hiTTrT20 => (simp only [List.getElem?_toArray, List.getElem?_cons_succ, List.getElem?_cons_zero]; try rfl)
          case wTTrT20 => rfl
          case yTTrT20 => (intro w hSw; (try dsimp only at hSw); go_simp; refine (HEQ.out _).trans ?_; rw [if_pos trivial])
          (try simp only [Act.put, List.setIfInBounds_toArray, List.set_cons_zero, List.set_cons_succ])
          refine wpAnyH_take (i := 21) (oi := ?oTTrT21) (v := ?vTTrT21) ?hiTTrT21 (by kernel_rfl) (by kernel_rfl) (by kernel_rfl) (fun _ _ _ h => h) (Or.inl ⟨?wTTrT21, ?yTTrT21⟩) (by assumption) ?rTTrT21
          case hiTTrT21 => (simp only [List.getElem?_toArray, List.getElem?_cons_succ, List.getElem?_cons_zero]; try rfl)
          case wTTrT21 => rfl
          case yTTrT21 => (intro w hSw; (try dsimp only at hSw); go_simp; (try with_reducible rfl))
          (try simp only [Act.put, List.setIfInBounds_toArray, List.set_cons_zero, List.set_cons_succ])
          refine wpAnyH_take (i := 22) (oi := ?oTTrT22) (v := ?vTTrT22) ?hiTTrT22 (by kernel_rfl) (by kernel_rfl) (by kernel_rfl) (fun _ _ _ h => h) (Or.inl ⟨?wTTrT22, ?yTTrT22⟩) (by assumption) ?rTTrT22
          case hiTTrT22 => (simp only [List.getElem?_toArray, List.getElem?_cons_succ, List.getElem?_cons_zero]; try rfl)
          case wTTrT22 => rfl
          case yTTrT22 => (intro w hSw; (try dsimp only at hSw); go_simp; (try with_reducible rfl))
          (try simp only [Act.put, List.setIfInBounds_toArray, List.set_cons_zero, List.set_cons_succ])
          refine wpAnyH_take (i := 23) (oi := ?oTTrT23) (v := ?vTTrT23) ?hiTTrT23 (by kernel_rfl) (by kernel_rfl) (by kernel_rfl) (fun _ _ _ h => h) (Or.inl ⟨?wTTrT23, ?yTTrT23⟩) (by assumption) ?rTTrT23
          case hiTTrT23 => (simp only [List.getElem?_toArray, List.getElem?_cons_succ, List.getElem?_cons_zero]; try rfl)
          case wTTrT23 => rfl
          case yTTrT23 => (intro w hSw; (try dsimp only at hSw); go_simp; (try with_reducible rfl))
          (try simp only [Act.put, List.setIfInBounds_toArray, List.set_cons_zero, List.set_cons_succ])
          refine wpAnyH_take (i := 24) (oi := ?oTTrT24) (v := ?vTTrT24) ?hiTTrT24 (by kernel_rfl) (by kernel_rfl) (by kernel_rfl) (fun _ _ _ h => h) (Or.inl ⟨?wTTrT24, ?yTTrT24⟩) (by assumption) ?rTTrT24
          case hiTTrT24 => (simp only [List.getElem?_toArray, List.getElem?_cons_succ, List.getElem?_cons_zero]; try rfl)
          case wTTrT24 => rfl
          case yTTrT24 => (intro w hSw; (try dsimp only at hSw); go_simp; (try with_reducible rfl))
          (try simp only [Act.put, List.setIfInBounds_toArray, List.set_cons_zero, List.set_cons_succ])
          refine wpAnyH_done (by kernel_rfl) ?_ _
          refine NoPanic.normal ?_
          go_wp2_with fail
          go_ret
          exact ⟨rfl, K3.out.trans' (KwB.out.trans' KwC.out)⟩

set_option linter.unusedVariables false
set_option maxRecDepth 100000 in
theorem lifted (os : Os) (started : os.Started) (H : Type) (enc : TypeId × Value → H) :
    ReturnsInHanded {} Tryz.checked os 12 .any (Rows.wireUnlikeSpec.pre6 enc Tryz.prog Tryz.f12 Rows.wireUnlikeRow.domain false) (Rows.wireUnlikeSpec.post enc Tryz.prog Tryz.f12 false true false false) := by
  refine returnsInHanded_of_change (C := Tryz.checked) own started (by kernel_rfl) Tryz.func12
    (ChangeSpec.witness6 (enc := enc) (C := Tryz.checked) false ⟨#[], #[.agg #[.int .i64 0, .int .i64 0, .int .i64 0, .int .i64 0, .int .i64 0, .bool false], .int .i64 0, .int .i64 0], []⟩ 8 (by kernel_rfl) (by kernel_rfl) (by kernel_rfl) (by kernel_rfl)) ?_
  intro W base args ds gs before hval0 hW hcnd _
  have hval : ∀ (j : Nat) t v, Tryz.f12.params[j]? = some t → args[j]? = some v → Value.okWide Tryz.prog W .any base t v := hval0
  have hW' := hW
  obtain ⟨p, q, hA0, hV, rfl, hfz, hnd⟩ := hW
  have hA : DataW.TrodAll enc Tryz.prog W 0 (fun _ => true) true Tryz.f12.params.toList args.toList ds p := hA0
  rw [Tryz.params12] at hA hval
  obtain ⟨v0, vs0, d0, ds0, p0, q0, hargs, rfl, rfl, h0, r0⟩ := trodAll_cons hA
  obtain ⟨v1, vs1, d1, ds1, p1, q1, rfl, rfl, rfl, h1, r1⟩ := trodAll_cons r0
  obtain ⟨v2, vs2, d2, ds2, p2, q2, rfl, rfl, rfl, h2, r2⟩ := trodAll_cons r1
  obtain ⟨rfl, rfl, rfl⟩ := trodAll_nil r2
  obtain rfl : args = #[v0, v1, v2] := by cases args; simp_all
  obtain ⟨rfl, rfl⟩ := trodVars_none hV
  have k0 := h0
  have lt0 : ∀ x ∈ p0, x.block < W.heap.size := by obtain ⟨m, hm⟩ := k0; exact DataW.trod_lt m _ _ _ hm
  obtain ⟨z0, rfl, w0⟩ := open_arg0 W base (hval 0 23 v0 rfl rfl) h0
  obtain ⟨a1, rfl, rfl, rfl, w1⟩ := open_int Tryz.underlying3 (hval 1 3 v1 rfl rfl) h1
  obtain ⟨a2, rfl, rfl, rfl, w2⟩ := open_int Tryz.underlying2 (hval 2 2 v2 rfl rfl) h2
  clear hA0 hval0
  refine (walk W z0 w0 a1 w1 a2 w2).mono fun e W' ⟨he, hk⟩ => ?_
  subst he
  have bel := Keep.below hk
  exact ⟨_, rfl, _, _, _, [], _, [], hW', trodAll_mk1 (shut_bool Tryz.underlying4 _), (trodAll_cons_mk (Below.trod laidOut (by kernel_rfl) (of_decide_eq_true (by kernel_rfl)) k0 bel lt0) (trodAll_cons_mk (shut_int Tryz.underlying3 w1) (trodAll_cons_mk (shut_int Tryz.underlying2 w2) trodAll_mk0))), rfl, bel.frame _, fun h => by cases h⟩

theorem over : Rows.wireUnlikeRow.holds Tryz.pinned (OpenSpec.ofChange Rows.wireUnlikeSpec) :=
  OpenClaim.holds_of_wide 12 Tryz.f12 rfl rfl rfl rfl rfl rfl rfl ⟨rfl, rfl, rfl, rfl, rfl⟩ rfl rfl rfl rfl rfl (by kernel_rfl) Tryz.func12 (by kernel_rfl)
    (of_decide_eq_true (by kernel_rfl)) (by unfold Func.isWrapper; rw [if_neg (of_decide_eq_false (by kernel_rfl))]; exact ⟨rfl, rfl⟩)
    (fun os started H enc _ => lifted os started H enc)

/-- The statement. -/
theorem proved : Rows.WireUnlikeSaid := over
#print axioms proved
end Go.Proofs.YtlabhbjampkhpaaGreat.wireUnlike
