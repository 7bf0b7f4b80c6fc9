/- WireForm: the law returns true and changes nothing that was there. No conditions. -/
import Derived.Test.YtlabhbjampkhpaaGreatKit15
import Derived.Test.YtlabhbjampkhpaaGreatRows
import Derived.WalkKit
import Derived.ProofKit
import Derived.OpenShut
import Derived.ShutString
import Derived.ChangeOld
import Derived.Below
namespace Go.Proofs.YtlabhbjampkhpaaGreat.wireForm
open Go Go.ChangeShapes Go.WideShapes Go.ChangeAt Go.RowKit
open Go.ChangeMaps (open_string shut_string)

theorem own : ownKnob Tryz.prog.godebug = none := by kernel_rfl
theorem laidOut : laidOutB Tryz.prog = true := by kernel_rfl

open Go.Proofs Go.RowKit
set_option maxRecDepth 40000 in
theorem open_arg0 {H : Type} {enc : TypeId × Value → H} {r : Reach} {b0 : Nat} {v : Value} {d : DataW H} {p : List MemPlace} (W : World) (_base : Nat)
    (hv : Value.okWide Tryz.prog W r b0 23 v) (h : DataW.Trod enc Tryz.prog W 0 (fun _ => true) true 23 v d p) : ∃ z : PackV, v = packVal z ∧ z.Ok := open_packet hv h
theorem own_at {w : World} {v : Value} {l : List UInt8} {n : Nat} (h : OwnB w v l) (hn : l.length = n) (h0 : 0 < n) : ∃ g cp, v = .slice (some ⟨g, 0, none⟩) n cp ∧ SlB w (some ⟨g, 0, none⟩) cp l ∧ g < w.heap.size ∧ ∀ i, i < n → w.cell? ⟨g, i, none⟩ = some (.int .u8 ((l.getD i 0).toNat : Int)) := by
  subst hn
  have hs := h.slb
  rcases h.2 with ⟨rfl, e⟩ | ⟨g, cap, cur, rfl, _⟩
  · omega
  · obtain ⟨ao, cp, e, hsl, _⟩ := hs
    injection e with e1 e2 e3
    subst e1
    subst e3
    refine ⟨g, cap, rfl, hsl, h.lt g rfl, fun i hi => ?_⟩
    obtain ⟨g', o', e, hc⟩ := hsl.2.2 i hi
    injection e with e
    injection e with e1 e2
    subst e1
    subst e2
    rw [Nat.zero_add] at hc
    rw [hc, List.getD_eq_getElem?_getD, List.getElem?_eq_getElem hi]
    rfl
theorem wire_bytes {p : PackV} (h : packB p = true) : (((wireB p).getD 0 0).toNat : Int) = p.kind ∧ (((wireB p).getD 2 0).toNat : Int) = p.from_ ∧ (((wireB p).getD 4 0).toNat : Int) = p.to ∧ (((wireB p).getD 14 0).toNat : Int) = p.n ∧ (((wireB p).getD 16 0).toNat : Int) = if p.yes then 1 else 0 := by
  obtain ⟨⟨a1, a2⟩, ⟨b1, b2⟩, ⟨c1, c2⟩, _, ⟨e1, e2⟩⟩ := packB_bounds h
  simp [wireB, sealB, pkB, smallB, longB, truthB, leBytes]
  refine ⟨by omega, by omega, by omega, by omega, ?_⟩
  cases p.yes <;> rfl
set_option maxHeartbeats 8000000 in
set_option maxRecDepth 8000 in
theorem walk (w : World) (p : PackV) (hp : p.Ok) :
    Calls Tryz.prog 9 #[packVal p] w fun e w' => e = .returned (.bool true) ∧ Keep NoF w w' := by
  cases hb : packB p with
  | false =>
    have HE := Lib.hid (fun W => wenc_bad p W hp hb)
    have hr := fun W => rpacket_any p W hp
    rw [hb] at hr
    have HR := Lib.hid hr
    have heqz := fun W => eqSl none 0 0 W
    simp only [Option.isNone_none] at heqz
    clear hr hp hb
    obtain ⟨k, f, t, d, n, y⟩ := p
    unfold packVal at HE HR ⊢
    simp only at HE HR ⊢
    go_enter Tryz.func9, Tryz.ntmps9
    obtain ⟨B, hhB⟩ : ∃ B, w.heap.size = B := ⟨_, rfl⟩
    go_upto_region 1 with fail
    have hrB := heap_new w (.cells #[.int .i64 k, .int .i64 f, .int .i64 t, .int .i64 d, .int .i64 n, .bool y] 23 (0, 0))
    have hkB := keep_alloc w (.cells #[.int .i64 k, .int .i64 f, .int .i64 t, .int .i64 d, .int .i64 n, .bool y] 23 (0, 0))
    have hsB : (w.alloc (.cells #[.int .i64 k, .int .i64 f, .int .i64 t, .int .i64 d, .int .i64 n, .bool y] 23 (0, 0))).heap.size = w.heap.size + 1 := size_alloc _ _
    show Code.wp _ _ _ _ (w.alloc (.cells #[.int .i64 k, .int .i64 f, .int .i64 t, .int .i64 d, .int .i64 n, .bool y] 23 (0, 0)))
    rw [hhB] at hrB hsB
    generalize w.alloc (.cells #[.int .i64 k, .int .i64 f, .int .i64 t, .int .i64 d, .int .i64 n, .bool y] 23 (0, 0)) = W1 at hrB hkB hsB ⊢
    (try rw [hhB])
    have HCB : Hid (∀ W : World, W.heap[B]? = W1.heap[B]? → W.cell? ⟨B, 0, none⟩ = some (.int .i64 k) ∧ W.cell? ⟨B, 1, none⟩ = some (.int .i64 f) ∧ W.cell? ⟨B, 2, none⟩ = some (.int .i64 t) ∧ W.cell? ⟨B, 3, none⟩ = some (.int .i64 d) ∧ W.cell? ⟨B, 4, none⟩ = some (.int .i64 n) ∧ W.cell? ⟨B, 5, none⟩ = some (.bool y)) := Lib.hid fun W hW => by
      have e := hW.trans hrB
      refine ⟨?_, ?_, ?_, ?_, ?_, ?_⟩
      all_goals (rw [cell_of_heap e]; rfl)
    have HKB := Lib.hid hkB; have HRB := Lib.hid hrB; have HLB : Hid (B < W1.heap.size ∧ w.heap.size = B) := Lib.hid ⟨by omega, hhB⟩
    clear hrB hkB hsB hhB
    go_wp2_with fail
    refine (begun15_any W1).mono ?_
    rintro e w1 ⟨rfl, hk1⟩
    have K1 := Lib.hid hk1; clear hk1
    obtain ⟨d0, d1, d2, d3, d4, d5⟩ := HCB.out w1 (K1.out.block B HLB.out.1 (fun f => f))
    go_wp2_with fail
    refine (HE.out w1).mono ?_
    rintro e w2 ⟨rfl, hk2⟩
    have K2 := Lib.hid (K1.out.trans' hk2); clear hk2 d0 d1 d2 d3 d4 d5
    obtain ⟨d0, d1, d2, d3, d4, d5⟩ := HCB.out w2 (K2.out.block B HLB.out.1 (fun f => f))
    have heqz2 := heqz w2
    go_wp2_with fail
    refine (HR.out w2).mono ?_
    rintro e w3 ⟨rfl, hk3⟩
    have K3 := Lib.hid (K2.out.trans' hk3); clear hk3
    go_wp2_with fail
    go_ret
    exact ⟨rfl, HKB.out.trans' K3.out⟩
  | true =>
    have HE := Lib.hid (fun W => wenc_ok p W hp hb)
    have HB := Lib.hid (fun W => bytes15_any p W)
    have hwl := wireB_length p
    have hwb := wire_bytes hb
    obtain ⟨⟨a1, a2⟩, ⟨b1, b2⟩, ⟨c1, c2⟩, _, ⟨e1, e2⟩⟩ := packB_bounds hb
    have HWL := Lib.hid hwl
    clear hp hb hwl
    obtain ⟨k, f, t, d, n, y⟩ := p
    unfold packVal at HE HB ⊢
    simp only at HE HB hwb a1 a2 b1 b2 c1 c2 e1 e2 ⊢
    have wk : IntKind.i64.wrap k = k := IntWalk.i64_in k (by omega)
    have wf : IntKind.i64.wrap f = f := IntWalk.i64_in f (by omega)
    have wt : IntKind.i64.wrap t = t := IntWalk.i64_in t (by omega)
    have wn : IntKind.i64.wrap n = n := IntWalk.i64_in n (by omega)
    obtain ⟨A, hA⟩ : ∃ A, wireB (⟨k, f, t, d, n, y⟩ : PackV) = A := ⟨_, rfl⟩
    rw [hA] at HE HB HWL hwb
    have HWB := Lib.hid hwb
    clear hA hwb
    go_enter Tryz.func9, Tryz.ntmps9
    obtain ⟨B, hhB⟩ : ∃ B, w.heap.size = B := ⟨_, rfl⟩
    go_upto_region 1 with fail
    have hrB := heap_new w (.cells #[.int .i64 k, .int .i64 f, .int .i64 t, .int .i64 d, .int .i64 n, .bool y] 23 (0, 0))
    have hkB := keep_alloc w (.cells #[.int .i64 k, .int .i64 f, .int .i64 t, .int .i64 d, .int .i64 n, .bool y] 23 (0, 0))
    have hsB : (w.alloc (.cells #[.int .i64 k, .int .i64 f, .int .i64 t, .int .i64 d, .int .i64 n, .bool y] 23 (0, 0))).heap.size = w.heap.size + 1 := size_alloc _ _
    show Code.wp _ _ _ _ (w.alloc (.cells #[.int .i64 k, .int .i64 f, .int .i64 t, .int .i64 d, .int .i64 n, .bool y] 23 (0, 0)))
    rw [hhB] at hrB hsB
    generalize w.alloc (.cells #[.int .i64 k, .int .i64 f, .int .i64 t, .int .i64 d, .int .i64 n, .bool y] 23 (0, 0)) = W1 at hrB hkB hsB ⊢
    (try rw [hhB])
    have HCB : Hid (∀ W : World, W.heap[B]? = W1.heap[B]? → W.cell? ⟨B, 0, none⟩ = some (.int .i64 k) ∧ W.cell? ⟨B, 1, none⟩ = some (.int .i64 f) ∧ W.cell? ⟨B, 2, none⟩ = some (.int .i64 t) ∧ W.cell? ⟨B, 3, none⟩ = some (.int .i64 d) ∧ W.cell? ⟨B, 4, none⟩ = some (.int .i64 n) ∧ W.cell? ⟨B, 5, none⟩ = some (.bool y)) := Lib.hid fun W hW => by
      have e := hW.trans hrB
      refine ⟨?_, ?_, ?_, ?_, ?_, ?_⟩
      all_goals (rw [cell_of_heap e]; rfl)
    have HKB := Lib.hid hkB; have HRB := Lib.hid hrB; have HLB : Hid (B < W1.heap.size ∧ w.heap.size = B) := Lib.hid ⟨by omega, hhB⟩
    clear hrB hkB hsB hhB
    go_wp2_with fail
    refine (begun15_any W1).mono ?_
    rintro e w1 ⟨rfl, hk1⟩
    have K1 := Lib.hid hk1; clear hk1
    obtain ⟨d0, d1, d2, d3, d4, d5⟩ := HCB.out w1 (K1.out.block B HLB.out.1 (fun f => f))
    go_wp2_with fail
    refine (HE.out w1).mono ?_
    rintro e w2 ⟨v, rfl, hv, hk2, _⟩
    have K2 := Lib.hid (K1.out.trans' hk2)
    obtain ⟨g, cp, rfl, hsl, hgl, hce⟩ := own_at hv HWL.out (by decide)
    have HSL := Lib.hid hsl
    have HCE : Hid (∀ W : World, Keep NoF w2 W → W.cell? ⟨g, 0, none⟩ = some (.int .u8 k) ∧ W.cell? ⟨g, 2, none⟩ = some (.int .u8 f) ∧ W.cell? ⟨g, 4, none⟩ = some (.int .u8 t) ∧ W.cell? ⟨g, 14, none⟩ = some (.int .u8 n) ∧ W.cell? ⟨g, 16, none⟩ = some (.int .u8 (if y then 1 else 0)) ∧ (convert 24 9 (.slice (some ⟨g, 0, none⟩) 21 cp)).run Tryz.prog W = .ok (.string (bstr A)) W) := Lib.hid fun W hW => by
      obtain ⟨e0, e1, e2, e3, e4⟩ := HWB.out
      refine ⟨hW.cell' ?_ (fun f => f), hW.cell' ?_ (fun f => f), hW.cell' ?_ (fun f => f), hW.cell' ?_ (fun f => f), hW.cell' ?_ (fun f => f), conv_at (HSL.out.keep hW (fun _ _ f => f)) HWL.out⟩
      · rw [← e0]; exact hce 0 (by decide)
      · rw [← e1]; exact hce 2 (by decide)
      · rw [← e2]; exact hce 4 (by decide)
      · rw [← e3]; exact hce 14 (by decide)
      · rw [← e4]; exact hce 16 (by decide)
    have heq := eqSl (some ⟨g, 0, none⟩) 21 cp w2
    simp only [Option.isNone_some] at heq
    clear hv hk2 hsl hgl hce d0 d1 d2 d3 d4 d5
    go_upto_region 7 with fail
    cases y
    · simp only [Bool.false_eq_true, if_false] at HCE
      have hk0 := And.intro (HCE.out w2.drew (Keep.refl NoF w2).drew) (HCB.out w2.drew (K2.out.block B HLB.out.1 (fun f => f)))
      refine wp_region_noPanic ?_
      refine wp_region_held_drew (S := (fun W' : World => (W'.cell? ⟨g, 0, none⟩ = some (.int .u8 k) ∧ W'.cell? ⟨g, 2, none⟩ = some (.int .u8 f) ∧ W'.cell? ⟨g, 4, none⟩ = some (.int .u8 t) ∧ W'.cell? ⟨g, 14, none⟩ = some (.int .u8 n) ∧ W'.cell? ⟨g, 16, none⟩ = some (.int .u8 0) ∧ (convert 24 9 (.slice (some ⟨g, 0, none⟩) 21 cp)).run Tryz.prog W' = .ok (.string (bstr A)) W') ∧ (W'.cell? ⟨B, 0, none⟩ = some (.int .i64 k) ∧ W'.cell? ⟨B, 1, none⟩ = some (.int .i64 f) ∧ W'.cell? ⟨B, 2, none⟩ = some (.int .i64 t) ∧ W'.cell? ⟨B, 3, none⟩ = some (.int .i64 d) ∧ W'.cell? ⟨B, 4, none⟩ = some (.int .i64 n) ∧ W'.cell? ⟨B, 5, none⟩ = some (.bool false)))) (by kernel_rfl) (hk0) (fun hHeld => ?_)
      refine wpAnyH_take (i := 0) (oi := ?oF0) (v := ?vF0) ?hiF0 (by kernel_rfl) (by kernel_rfl) (by kernel_rfl) (fun _ _ _ h => h) (Or.inl ⟨?wF0, ?yF0⟩) (by assumption) ?rF0
      case hiF0 => (simp only [List.getElem?_toArray, List.getElem?_cons_zero]; try rfl)
      case wF0 => rfl
      case yF0 => (intro w hSw; (try dsimp only at hSw); go_simp; (try with_reducible rfl))
      (try simp only [Act.put, List.setIfInBounds_toArray, List.set_cons_zero, List.set_cons_succ])
      refine wpAnyH_take (i := 1) (oi := ?oF1) (v := ?vF1) ?hiF1 (by kernel_rfl) (by kernel_rfl) (by kernel_rfl) (fun _ _ _ h => h) (Or.inl ⟨?wF1, ?yF1⟩) (by assumption) ?rF1
      case hiF1 => (simp only [List.getElem?_toArray, List.getElem?_cons_succ, List.getElem?_cons_zero]; try rfl)
      case wF1 => rfl
      case yF1 => (intro w hSw; (try dsimp only at hSw); go_simp; (try with_reducible rfl))
      (try simp only [Act.put, List.setIfInBounds_toArray, List.set_cons_zero, List.set_cons_succ])
      refine wpAnyH_take (i := 2) (oi := ?oF2) (v := ?vF2) ?hiF2 (by kernel_rfl) (by kernel_rfl) (by kernel_rfl) (fun _ _ _ h => h) (Or.inl ⟨?wF2, ?yF2⟩) (by assumption) ?rF2
      case hiF2 => (simp only [List.getElem?_toArray, List.getElem?_cons_succ, List.getElem?_cons_zero]; try rfl)
      case wF2 => rfl
      case yF2 => (intro w hSw; (try dsimp only at hSw); go_simp; (try with_reducible rfl))
      (try simp only [Act.put, List.setIfInBounds_toArray, List.set_cons_zero, List.set_cons_succ])
      refine wpAnyH_take (i := 3) (oi := ?oF3) (v := ?vF3) ?hiF3 (by kernel_rfl) (by kernel_rfl) (by kernel_rfl) (fun _ _ _ h => h) (Or.inl ⟨?wF3, ?yF3⟩) (by assumption) ?rF3
      case hiF3 => (simp only [List.getElem?_toArray, List.getElem?_cons_succ, List.getElem?_cons_zero]; try rfl)
      case wF3 => rfl
      case yF3 => (intro w hSw; (try dsimp only at hSw); go_simp; (try with_reducible rfl))
      (try simp only [Act.put, List.setIfInBounds_toArray, List.set_cons_zero, List.set_cons_succ])
      refine wpAnyH_take (i := 4) (oi := ?oF4) (v := ?vF4) ?hiF4 (by kernel_rfl) (by kernel_rfl) (by kernel_rfl) (fun _ _ _ h => h) (Or.inl ⟨?wF4, ?yF4⟩) (by assumption) ?rF4
      case hiF4 => (simp only [List.getElem?_toArray, List.getElem?_cons_succ, List.getElem?_cons_zero]; try rfl)
      case wF4 => rfl
      case yF4 => (intro w hSw; (try dsimp only at hSw); go_simp; (try with_reducible rfl))
      (try simp only [Act.put, List.setIfInBounds_toArray, List.set_cons_zero, List.set_cons_succ])
      refine wpAnyH_take (i := 5) (oi := ?oF5) (v := ?vF5) ?hiF5 (by kernel_rfl) (by kernel_rfl) (by kernel_rfl) (fun _ _ _ h => h) (Or.inl ⟨?wF5, ?yF5⟩) (by assumption) ?rF5
      case hiF5 => (simp only [List.getElem?_toArray, List.getElem?_cons_succ, List.getElem?_cons_zero]; try rfl)
      case wF5 => rfl
      case yF5 => (intro w hSw; (try dsimp only at hSw); go_simp; (try with_reducible rfl))
      (try simp only [Act.put, List.setIfInBounds_toArray, List.set_cons_zero, List.set_cons_succ])
      refine wpAnyH_take (i := 6) (oi := ?oF6) (v := ?vF6) ?hiF6 (by kernel_rfl) (by kernel_rfl) (by kernel_rfl) (fun _ _ _ h => h) (Or.inl ⟨?wF6, ?yF6⟩) (by assumption) ?rF6
      case hiF6 => (simp only [List.getElem?_toArray, List.getElem?_cons_succ, List.getElem?_cons_zero]; try rfl)
      case wF6 => rfl
      case yF6 => (intro w hSw; (try dsimp only at hSw); go_simp; (try with_reducible rfl))
      (try simp only [Act.put, List.setIfInBounds_toArray, List.set_cons_zero, List.set_cons_succ])
      refine wpAnyH_take (i := 7) (oi := ?oF7) (v := ?vF7) ?hiF7 (by kernel_rfl) (by kernel_rfl) (by kernel_rfl) (fun _ _ _ h => h) (Or.inl ⟨?wF7, ?yF7⟩) (by assumption) ?rF7
      case hiF7 => (simp only [List.getElem?_toArray, List.getElem?_cons_succ, List.getElem?_cons_zero]; try rfl)
      case wF7 => rfl
      case yF7 => (intro w hSw; (try dsimp only at hSw); go_simp; (try with_reducible rfl))
      (try simp only [Act.put, List.setIfInBounds_toArray, List.set_cons_zero, List.set_cons_succ])
      refine wpAnyH_take (i := 8) (oi := ?oF8) (v := ?vF8) ?hiF8 (by kernel_rfl) (by kernel_rfl) (by kernel_rfl) (fun _ _ _ h => h) (Or.inl ⟨?wF8, ?yF8⟩) (by assumption) ?rF8
      case hiF8 => (simp only [List.getElem?_toArray, List.getElem?_cons_succ, List.getElem?_cons_zero]; try rfl)
      case wF8 => rfl
      case yF8 => (intro w hSw; (try dsimp only at hSw); go_simp; (try with_reducible rfl))
      (try simp only [Act.put, List.setIfInBounds_toArray, List.set_cons_zero, List.set_cons_succ])
      refine wpAnyH_take (i := 9) (oi := ?oF9) (v := ?vF9) ?hiF9 (by kernel_rfl) (by kernel_rfl) (by kernel_rfl) (fun _ _ _ h => h) (Or.inl ⟨?wF9, ?yF9⟩) (by assumption) ?rF9
      case hiF9 => (simp only [List.getElem?_toArray, List.getElem?_cons_succ, List.getElem?_cons_zero]; try rfl)
      case wF9 => rfl
      case yF9 => (intro w hSw; (try dsimp only at hSw); go_simp; (try with_reducible rfl))
      (try simp only [Act.put, List.setIfInBounds_toArray, List.set_cons_zero, List.set_cons_succ])
      refine wpAnyH_take (i := 10) (oi := ?oF10) (v := ?vF10) ?hiF10 (by kernel_rfl) (by kernel_rfl) (by kernel_rfl) (fun _ _ _ h => h) (Or.inl ⟨?wF10, ?yF10⟩) (by assumption) ?rF10
      case hiF10 => (simp only [List.getElem?_toArray, List.getElem?_cons_succ, List.getElem?_cons_zero]; try rfl)
      case wF10 => rfl
      case yF10 => (intro w hSw; (try dsimp only at hSw); go_simp; (try with_reducible rfl))
      (try simp only [Act.put, List.setIfInBounds_toArray, List.set_cons_zero, List.set_cons_succ])
      refine wpAnyH_take (i := 11) (oi := ?oF11) (v := ?vF11) ?hiF11 (by kernel_rfl) (by kernel_rfl) (by kernel_rfl) (fun _ _ _ h => h) (Or.inl ⟨?wF11, ?yF11⟩) (by assumption) ?rF11
      case hiF11 => (simp only [List.getElem?_toArray, List.getElem?_cons_succ, List.getElem?_cons_zero]; try rfl)
      case wF11 => rfl
      case yF11 => (intro w hSw; (try dsimp only at hSw); go_simp; (try with_reducible rfl))
      (try simp only [Act.put, List.setIfInBounds_toArray, List.set_cons_zero, List.set_cons_succ])
      refine wpAnyH_take (i := 12) (oi := ?oF12) (v := ?vF12) ?hiF12 (by kernel_rfl) (by kernel_rfl) (by kernel_rfl) (fun _ _ _ h => h) (Or.inl ⟨?wF12, ?yF12⟩) (by assumption) ?rF12
      case hiF12 => (simp only [List.getElem?_toArray, List.getElem?_cons_succ, List.getElem?_cons_zero]; try rfl)
      case wF12 => rfl
      case yF12 => (intro w hSw; (try dsimp only at hSw); go_simp; (try with_reducible rfl))
      (try simp only [Act.put, List.setIfInBounds_toArray, List.set_cons_zero, List.set_cons_succ])
      refine wpAnyH_take (i := 13) (oi := ?oF13) (v := ?vF13) ?hiF13 (by kernel_rfl) (by kernel_rfl) (by kernel_rfl) (fun _ _ _ h => h) (Or.inl ⟨?wF13, ?yF13⟩) (by assumption) ?rF13
      case hiF13 => (simp only [List.getElem?_toArray, List.getElem?_cons_succ, List.getElem?_cons_zero]; try rfl)
      case wF13 => rfl
      case yF13 => (intro w hSw; (try dsimp only at hSw); go_simp; (try with_reducible rfl))
      (try simp only [Act.put, List.setIfInBounds_toArray, List.set_cons_zero, List.set_cons_succ])
      refine wpAnyH_take (i := 14) (oi := ?oF14) (v := ?vF14) ?hiF14 (by kernel_rfl) (by kernel_rfl) (by kernel_rfl) (fun _ _ _ h => h) (Or.inl ⟨?wF14, ?yF14⟩) (by assumption) ?rF14
      case hiF14 => (simp only [List.getElem?_toArray, List.getElem?_cons_succ, List.getElem?_cons_zero]; try rfl)
      case wF14 => rfl
      case yF14 => (intro w hSw; (try dsimp only at hSw); go_simp; (try with_reducible rfl))
      (try simp only [Act.put, List.setIfInBounds_toArray, List.set_cons_zero, List.set_cons_succ])
      refine wpAnyH_take (i := 15) (oi := ?oF15) (v := ?vF15) ?hiF15 (by kernel_rfl) (by kernel_rfl) (by kernel_rfl) (fun _ _ _ h => h) (Or.inl ⟨?wF15, ?yF15⟩) (by assumption) ?rF15
      case hiF15 => (simp only [List.getElem?_toArray, List.getElem?_cons_succ, List.getElem?_cons_zero]; try rfl)
      case wF15 => rfl
      case yF15 => (intro w hSw; (try dsimp only at hSw); go_simp; (try with_reducible rfl))
      (try simp only [Act.put, List.setIfInBounds_toArray, List.set_cons_zero, List.set_cons_succ])
      refine wpAnyH_take (i := 16) (oi := ?oF16) (v := ?vF16) ?hiF16 (by kernel_rfl) (by kernel_rfl) (by kernel_rfl) (fun _ _ _ h => h) (Or.inl ⟨?wF16, ?yF16⟩) (by assumption) ?rF16
      case hiF16 => (simp only [List.getElem?_toArray, List.getElem?_cons_succ, List.getElem?_cons_zero]; try rfl)
      case wF16 => rfl
      case yF16 => (intro w hSw; (try dsimp only at hSw); go_simp; (try with_reducible rfl))
      (try simp only [Act.put, List.setIfInBounds_toArray, List.set_cons_zero, List.set_cons_succ])
      refine wpAnyH_take (i := 17) (oi := ?oF17) (v := ?vF17) ?hiF17 (by kernel_rfl) (by kernel_rfl) (by kernel_rfl) (fun _ _ _ h => h) (Or.inl ⟨?wF17, ?yF17⟩) (by assumption) ?rF17
      case hiF17 => (simp only [List.getElem?_toArray, List.getElem?_cons_succ, List.getElem?_cons_zero]; try rfl)
      case wF17 => rfl
      case yF17 => (intro w hSw; (try dsimp only at hSw); go_simp; (try with_reducible rfl))
      (try simp only [Act.put, List.setIfInBounds_toArray, List.set_cons_zero, List.set_cons_succ])
      refine wpAnyH_take (i := 18) (oi := ?oF18) (v := ?vF18) ?hiF18 (by kernel_rfl) (by kernel_rfl) (by kernel_rfl) (fun _ _ _ h => h) (Or.inl ⟨?wF18, ?yF18⟩) (by assumption) ?rF18
      case hiF18 => (simp only [List.getElem?_toArray, List.getElem?_cons_succ, List.getElem?_cons_zero]; try rfl)
      case wF18 => rfl
      case yF18 => (intro w hSw; (try dsimp only at hSw); go_simp; (try with_reducible rfl))
      (try simp only [Act.put, List.setIfInBounds_toArray, List.set_cons_zero, List.set_cons_succ])
      refine wpAnyH_take (i := 19) (oi := ?oF19) (v := ?vF19) ?hiF19 (by kernel_rfl) (by kernel_rfl) (by kernel_rfl) (fun _ _ _ h => h) (Or.inl ⟨?wF19, ?yF19⟩) (by assumption) ?rF19
      case hiF19 => (simp only [List.getElem?_toArray, List.getElem?_cons_succ, List.getElem?_cons_zero]; try rfl)
      case wF19 => rfl
      case yF19 => (intro w hSw; (try dsimp only at hSw); go_simp; (try with_reducible rfl))
      (try simp only [Act.put, List.setIfInBounds_toArray, List.set_cons_zero, List.set_cons_succ])
      refine wpAnyH_take (i := 20) (oi := ?oF20) (v := ?vF20) ?hiF20 (by kernel_rfl) (by kernel_rfl) (by kernel_rfl) (fun _ _ _ h => h) (Or.inl ⟨?wF20, ?yF20⟩) (by assumption) ?rF20
      case hiF20 => (simp only [List.getElem?_toArray, List.getElem?_cons_succ, List.getElem?_cons_zero]; try rfl)
      case wF20 => rfl
      case yF20 => (intro w hSw; (try dsimp only at hSw); go_simp; (try with_reducible rfl))
      (try simp only [Act.put, List.setIfInBounds_toArray, List.set_cons_zero, List.set_cons_succ])
      refine wpAnyH_take (i := 21) (oi := ?oF21) (v := ?vF21) ?hiF21 (by kernel_rfl) (by kernel_rfl) (by kernel_rfl) (fun _ _ _ h => h) (Or.inl ⟨?wF21, ?yF21⟩) (by assumption) ?rF21
      case hiF21 => (simp only [List.getElem?_toArray, List.getElem?_cons_succ, List.getElem?_cons_zero]; try rfl)
      case wF21 => rfl
      case yF21 => (intro w hSw; (try dsimp only at hSw); go_simp; (try with_reducible rfl))
      (try simp only [Act.put, List.setIfInBounds_toArray, List.set_cons_zero, List.set_cons_succ])
      refine wpAnyH_take (i := 22) (oi := ?oF22) (v := ?vF22) ?hiF22 (by kernel_rfl) (by kernel_rfl) (by kernel_rfl) (fun _ _ _ h => h) (Or.inl ⟨?wF22, ?yF22⟩) (by assumption) ?rF22
      case hiF22 => (simp only [List.getElem?_toArray, List.getElem?_cons_succ, List.getElem?_cons_zero]; try rfl)
      case wF22 => rfl
      case yF22 => (intro w hSw; (try dsimp only at hSw); go_simp; (try with_reducible rfl))
      (try simp only [Act.put, List.setIfInBounds_toArray, List.set_cons_zero, List.set_cons_succ])
      refine wpAnyH_take (i := 23) (oi := ?oF23) (v := ?vF23) ?hiF23 (by kernel_rfl) (by kernel_rfl) (by kernel_rfl) (fun _ _ _ h => h) (Or.inl ⟨?wF23, ?yF23⟩) (by assumption) ?rF23
      case hiF23 => (simp only [List.getElem?_toArray, List.getElem?_cons_succ, List.getElem?_cons_zero]; try rfl)
      case wF23 => rfl
      case yF23 => (intro w hSw; (try dsimp only at hSw); go_simp; (try with_reducible rfl))
      (try simp only [Act.put, List.setIfInBounds_toArray, List.set_cons_zero, List.set_cons_succ])
      refine wpAnyH_take (i := 24) (oi := ?oF24) (v := ?vF24) ?hiF24 (by kernel_rfl) (by kernel_rfl) (by kernel_rfl) (fun _ _ _ h => h) (Or.inl ⟨?wF24, ?yF24⟩) (by assumption) ?rF24
      case hiF24 => (simp only [List.getElem?_toArray, List.getElem?_cons_succ, List.getElem?_cons_zero]; try rfl)
      case wF24 => rfl
      case yF24 => (intro w hSw; (try dsimp only at hSw); go_simp; (try with_reducible rfl))
      (try simp only [Act.put, List.setIfInBounds_toArray, List.set_cons_zero, List.set_cons_succ])
      refine wpAnyH_take (i := 25) (oi := ?oF25) (v := ?vF25) ?hiF25 (by kernel_rfl) (by kernel_rfl) (by kernel_rfl) (fun _ _ _ h => h) (Or.inl ⟨?wF25, ?yF25⟩) (by assumption) ?rF25
      case hiF25 => (simp only [List.getElem?_toArray, List.getElem?_cons_succ, List.getElem?_cons_zero]; try rfl)
      case wF25 => rfl
      case yF25 => (intro w hSw; (try dsimp only at hSw); go_simp; (try with_reducible rfl))
      (try simp only [Act.put, List.setIfInBounds_toArray, List.set_cons_zero, List.set_cons_succ])
      refine wpAnyH_take (i := 26) (oi := ?oF26) (v := ?vF26) ?hiF26 (by kernel_rfl) (by kernel_rfl) (by kernel_rfl) (fun _ _ _ h => h) (Or.inl ⟨?wF26, ?yF26⟩) (by assumption) ?rF26
      case hiF26 => (simp only [List.getElem?_toArray, List.getElem?_cons_succ, List.getElem?_cons_zero]; try rfl)
      case wF26 => rfl
      case yF26 => (intro w hSw; (try dsimp only at hSw); go_simp; (try with_reducible rfl))
      (try simp only [Act.put, List.setIfInBounds_toArray, List.set_cons_zero, List.set_cons_succ])
      refine wpAnyH_take (i := 27) (oi := ?oF27) (v := ?vF27) ?hiF27 (by kernel_rfl) (by kernel_rfl) (by kernel_rfl) (fun _ _ _ h => h) (Or.inl ⟨?wF27, ?yF27⟩) (by assumption) ?rF27
      case hiF27 => (simp only [List.getElem?_toArray, List.getElem?_cons_succ, List.getElem?_cons_zero]; try rfl)
      case wF27 => rfl
      case yF27 => (intro w hSw; (try dsimp only at hSw); go_simp; (try with_reducible rfl))
      (try simp only [Act.put, List.setIfInBounds_toArray, List.set_cons_zero, List.set_cons_succ])
      refine wpAnyH_take (i := 28) (oi := ?oF28) (v := ?vF28) ?hiF28 (by kernel_rfl) (by kernel_rfl) (by kernel_rfl) (fun _ _ _ h => h) (Or.inl ⟨?wF28, ?yF28⟩) (by assumption) ?rF28
      case hiF28 => (simp only [List.getElem?_toArray, List.getElem?_cons_succ, List.getElem?_cons_zero]; try rfl)
      case wF28 => rfl
      case yF28 => (intro w hSw; (try dsimp only at hSw); go_simp; (try with_reducible rfl))
      (try simp only [Act.put, List.setIfInBounds_toArray, List.set_cons_zero, List.set_cons_succ])
      refine wpAnyH_take (i := 29) (oi := ?oF29) (v := ?vF29) ?hiF29 (by kernel_rfl) (by kernel_rfl) (by kernel_rfl) (fun _ _ _ h => h) (Or.inl ⟨?wF29, ?yF29⟩) (by assumption) ?rF29
      case hiF29 => (simp only [List.getElem?_toArray, List.getElem?_cons_succ, List.getElem?_cons_zero]; try rfl)
      case wF29 => rfl
      case yF29 => (intro w hSw; (try dsimp only at hSw); go_simp; (try with_reducible rfl))
      (try simp only [Act.put, List.setIfInBounds_toArray, List.set_cons_zero, List.set_cons_succ])
      refine wpAnyH_take (i := 30) (oi := ?oF30) (v := ?vF30) ?hiF30 (by kernel_rfl) (by kernel_rfl) (by kernel_rfl) (fun _ _ _ h => h) (Or.inl ⟨?wF30, ?yF30⟩) (by assumption) ?rF30
      case hiF30 => (simp only [List.getElem?_toArray, List.getElem?_cons_succ, List.getElem?_cons_zero]; try rfl)
      case wF30 => rfl
      case yF30 => (intro w hSw; (try dsimp only at hSw); go_simp; (try with_reducible rfl))
      (try simp only [Act.put, List.setIfInBounds_toArray, List.set_cons_zero, List.set_cons_succ])
      refine wpAnyH_take (i := 31) (oi := ?oF31) (v := ?vF31) ?hiF31 (by kernel_rfl) (by kernel_rfl) (by kernel_rfl) (fun _ _ _ h => h) (Or.inl ⟨?wF31, ?yF31⟩) (by assumption) ?rF31
      case hiF31 => (simp only [List.getElem?_toArray, List.getElem?_cons_succ, List.getElem?_cons_zero]; try rfl)
      case wF31 => rfl
      case yF31 => (intro w hSw; (try dsimp only at hSw); go_simp; (try with_reducible rfl))
      (try simp only [Act.put, List.setIfInBounds_toArray, List.set_cons_zero, List.set_cons_succ])
      refine wpAnyH_take (i := 32) (oi := ?oF32) (v := ?vF32) ?hiF32 (by kernel_rfl) (by kernel_rfl) (by kernel_rfl) (fun _ _ _ h => h) (Or.inl ⟨?wF32, ?yF32⟩) (by assumption) ?rF32
      case hiF32 => (simp only [List.getElem?_toArray, List.getElem?_cons_succ, List.getElem?_cons_zero]; try rfl)
      case wF32 => rfl
      case yF32 => (intro w hSw; (try dsimp only at hSw); go_simp; (try with_reducible rfl))
      (try simp only [Act.put, List.setIfInBounds_toArray, List.set_cons_zero, List.set_cons_succ])
      refine wpAnyH_take (i := 33) (oi := ?oF33) (v := ?vF33) ?hiF33 (by kernel_rfl) (by kernel_rfl) (by kernel_rfl) (fun _ _ _ h => h) (Or.inl ⟨?wF33, ?yF33⟩) (by assumption) ?rF33
      case hiF33 => (simp only [List.getElem?_toArray, List.getElem?_cons_succ, List.getElem?_cons_zero]; try rfl)
      case wF33 => rfl
      case yF33 => (intro w hSw; (try dsimp only at hSw); go_simp; (try with_reducible rfl))
      (try simp only [Act.put, List.setIfInBounds_toArray, List.set_cons_zero, List.set_cons_succ])
      refine wpAnyH_take (i := 34) (oi := ?oF34) (v := ?vF34) ?hiF34 (by kernel_rfl) (by kernel_rfl) (by kernel_rfl) (fun _ _ _ h => h) (Or.inl ⟨?wF34, ?yF34⟩) (by assumption) ?rF34
      case hiF34 => (simp only [List.getElem?_toArray, List.getElem?_cons_succ, List.getElem?_cons_zero]; try rfl)
      case wF34 => rfl
      case yF34 => (intro w hSw; (try dsimp only at hSw); go_simp; (try with_reducible rfl))
      (try simp only [Act.put, List.setIfInBounds_toArray, List.set_cons_zero, List.set_cons_succ])
      refine wpAnyH_take (i := 35) (oi := ?oF35) (v := ?vF35) ?hiF35 (by kernel_rfl) (by kernel_rfl) (by kernel_rfl) (fun _ _ _ h => h) (Or.inl ⟨?wF35, ?yF35⟩) (by assumption) ?rF35
      case hiF35 => (simp only [List.getElem?_toArray, List.getElem?_cons_succ, List.getElem?_cons_zero]; try rfl)
      case wF35 => rfl
      case yF35 => (intro w hSw; (try dsimp only at hSw); go_simp; (try with_reducible rfl))
      (try simp only [Act.put, List.setIfInBounds_toArray, List.set_cons_zero, List.set_cons_succ])
      refine wpAnyH_take (i := 36) (oi := ?oF36) (v := ?vF36) ?hiF36 (by kernel_rfl) (by kernel_rfl) (by kernel_rfl) (fun _ _ _ h => h) (Or.inl ⟨?wF36, ?yF36⟩) (by assumption) ?rF36
      case hiF36 => (simp only [List.getElem?_toArray, List.getElem?_cons_succ, List.getElem?_cons_zero]; try rfl)
      case wF36 => rfl
      case yF36 => (intro w hSw; (try dsimp only at hSw); go_simp; (try with_reducible rfl))
      (try simp only [Act.put, List.setIfInBounds_toArray, List.set_cons_zero, List.set_cons_succ])
      refine wpAnyH_take (i := 37) (oi := ?oF37) (v := ?vF37) ?hiF37 (by kernel_rfl) (by kernel_rfl) (by kernel_rfl) (fun _ _ _ h => h) (Or.inl ⟨?wF37, ?yF37⟩) (by assumption) ?rF37
      case hiF37 => (simp only [List.getElem?_toArray, List.getElem?_cons_succ, List.getElem?_cons_zero]; try rfl)
      case wF37 => rfl
      case yF37 => (intro w hSw; (try dsimp only at hSw); go_simp; (try with_reducible rfl))
      (try simp only [Act.put, List.setIfInBounds_toArray, List.set_cons_zero, List.set_cons_succ])
      refine wpAnyH_take (i := 38) (oi := ?oF38) (v := ?vF38) ?hiF38 (by kernel_rfl) (by kernel_rfl) (by kernel_rfl) (fun _ _ _ h => h) (Or.inl ⟨?wF38, ?yF38⟩) (by assumption) ?rF38
      case hiF38 => (simp only [List.getElem?_toArray, List.getElem?_cons_succ, List.getElem?_cons_zero]; try rfl)
      case wF38 => rfl
      case yF38 => (intro w hSw; (try dsimp only at hSw); go_simp; (try with_reducible rfl))
      (try simp only [Act.put, List.setIfInBounds_toArray, List.set_cons_zero, List.set_cons_succ])
      refine wpAnyH_take (i := 39) (oi := ?oF39) (v := ?vF39) ?hiF39 (by kernel_rfl) (by kernel_rfl) (by kernel_rfl) (fun _ _ _ h => h) (Or.inl ⟨?wF39, ?yF39⟩) (by assumption) ?rF39
      case hiF39 => (simp only [List.getElem?_toArray, List.getElem?_cons_succ, List.getElem?_cons_zero]; try rfl)
      case wF39 => rfl
      case yF39 => (intro w hSw; (try dsimp only at hSw); go_simp; (try with_reducible rfl))
      (try simp only [Act.put, List.setIfInBounds_toArray, List.set_cons_zero, List.set_cons_succ])
      refine wpAnyH_take (i := 40) (oi := ?oF40) (v := ?vF40) ?hiF40 (by kernel_rfl) (by kernel_rfl) (by kernel_rfl) (fun _ _ _ h => h) (Or.inl ⟨?wF40, ?yF40⟩) (by assumption) ?rF40
      case hiF40 => (simp only [List.getElem?_toArray, List.getElem?_cons_succ, List.getElem?_cons_zero]; try rfl)
      case wF40 => rfl
      case yF40 => (intro w hSw; (try dsimp only at hSw); go_simp; (try with_reducible rfl))
      (try simp only [Act.put, List.setIfInBounds_toArray, List.set_cons_zero, List.set_cons_succ])
      refine wpAnyH_take (i := 41) (oi := ?oF41) (v := ?vF41) ?hiF41 (by kernel_rfl) (by kernel_rfl) (by kernel_rfl) (fun _ _ _ h => h) (Or.inl ⟨?wF41, ?yF41⟩) (by assumption) ?rF41
      case hiF41 => (simp only [List.getElem?_toArray, List.getElem?_cons_succ, List.getElem?_cons_zero]; try rfl)
      case wF41 => rfl
      case yF41 => (intro w hSw; (try dsimp only at hSw); go_simp; (try with_reducible rfl))
      (try simp only [Act.put, List.setIfInBounds_toArray, List.set_cons_zero, List.set_cons_succ])
      refine wpAnyH_take (i := 42) (oi := ?oF42) (v := ?vF42) ?hiF42 (by kernel_rfl) (by kernel_rfl) (by kernel_rfl) (fun _ _ _ h => h) (Or.inl ⟨?wF42, ?yF42⟩) (by assumption) ?rF42
      case hiF42 => (simp only [List.getElem?_toArray, List.getElem?_cons_succ, List.getElem?_cons_zero]; try rfl)
      case wF42 => rfl
      case yF42 => (intro w hSw; (try dsimp only at hSw); go_simp; (try with_reducible rfl))
      (try simp only [Act.put, List.setIfInBounds_toArray, List.set_cons_zero, List.set_cons_succ])
      refine wpAnyH_take (i := 43) (oi := ?oF43) (v := ?vF43) ?hiF43 (by kernel_rfl) (by kernel_rfl) (by kernel_rfl) (fun _ _ _ h => h) (Or.inl ⟨?wF43, ?yF43⟩) (by assumption) ?rF43
      case hiF43 => (simp only [List.getElem?_toArray, List.getElem?_cons_succ, List.getElem?_cons_zero]; try rfl)
      case wF43 => rfl
      case yF43 => (intro w hSw; (try dsimp only at hSw); go_simp; (try with_reducible rfl))
      (try simp only [Act.put, List.setIfInBounds_toArray, List.set_cons_zero, List.set_cons_succ])
      refine wpAnyH_take (i := 44) (oi := ?oF44) (v := ?vF44) ?hiF44 (by kernel_rfl) (by kernel_rfl) (by kernel_rfl) (fun _ _ _ h => h) (Or.inl ⟨?wF44, ?yF44⟩) (by assumption) ?rF44
      case hiF44 => (simp only [List.getElem?_toArray, List.getElem?_cons_succ, List.getElem?_cons_zero]; try rfl)
      case wF44 => rfl
      case yF44 => (intro w hSw; (try dsimp only at hSw); go_simp; (try with_reducible rfl))
      (try simp only [Act.put, List.setIfInBounds_toArray, List.set_cons_zero, List.set_cons_succ])
      refine wpAnyH_take (i := 45) (oi := ?oF45) (v := ?vF45) ?hiF45 (by kernel_rfl) (by kernel_rfl) (by kernel_rfl) (fun _ _ _ h => h) (Or.inl ⟨?wF45, ?yF45⟩) (by assumption) ?rF45
      case hiF45 => (simp only [List.getElem?_toArray, List.getElem?_cons_succ, List.getElem?_cons_zero]; try rfl)
      case wF45 => rfl
      case yF45 => (intro w hSw; (try dsimp only at hSw); go_simp; (try with_reducible rfl))
      (try simp only [Act.put, List.setIfInBounds_toArray, List.set_cons_zero, List.set_cons_succ])
      refine wpAnyH_take (i := 46) (oi := ?oF46) (v := ?vF46) ?hiF46 (by kernel_rfl) (by kernel_rfl) (by kernel_rfl) (fun _ _ _ h => h) (Or.inl ⟨?wF46, ?yF46⟩) (by assumption) ?rF46
      case hiF46 => (simp only [List.getElem?_toArray, List.getElem?_cons_succ, List.getElem?_cons_zero]; try rfl)
      case wF46 => rfl
      case yF46 => (intro w hSw; (try dsimp only at hSw); go_simp; (try with_reducible rfl))
      (try simp only [Act.put, List.setIfInBounds_toArray, List.set_cons_zero, List.set_cons_succ])
      refine wpAnyH_take (i := 47) (oi := ?oF47) (v := ?vF47) ?hiF47 (by kernel_rfl) (by kernel_rfl) (by kernel_rfl) (fun _ _ _ h => h) (Or.inl ⟨?wF47, ?yF47⟩) (by assumption) ?rF47
      case hiF47 => (simp only [List.getElem?_toArray, List.getElem?_cons_succ, List.getElem?_cons_zero]; try rfl)
      case wF47 => rfl
      case yF47 => (intro w hSw; (try dsimp only at hSw); go_simp; (try with_reducible rfl))
      (try simp only [Act.put, List.setIfInBounds_toArray, List.set_cons_zero, List.set_cons_succ])
      refine wpAnyH_take (i := 48) (oi := ?oF48) (v := ?vF48) ?hiF48 (by kernel_rfl) (by kernel_rfl) (by kernel_rfl) (fun _ _ _ h => h) (Or.inl ⟨?wF48, ?yF48⟩) (by assumption) ?rF48
      case hiF48 => (simp only [List.getElem?_toArray, List.getElem?_cons_succ, List.getElem?_cons_zero]; try rfl)
      case wF48 => rfl
      case yF48 => (intro w hSw; (try dsimp only at hSw); go_simp; (try with_reducible rfl))
      (try simp only [Act.put, List.setIfInBounds_toArray, List.set_cons_zero, List.set_cons_succ])
      refine wpAnyH_take (i := 49) (oi := ?oF49) (v := ?vF49) ?hiF49 (by kernel_rfl) (by kernel_rfl) (by kernel_rfl) (fun _ _ _ h => h) (Or.inl ⟨?wF49, ?yF49⟩) (by assumption) ?rF49
      case hiF49 => (simp only [List.getElem?_toArray, List.getElem?_cons_succ, List.getElem?_cons_zero]; try rfl)
      case wF49 => rfl
      case yF49 => (intro w hSw; (try dsimp only at hSw); go_simp; (try with_reducible rfl))
      (try simp only [Act.put, List.setIfInBounds_toArray, List.set_cons_zero, List.set_cons_succ])
      refine wpAnyH_take (i := 50) (oi := ?oF50) (v := ?vF50) ?hiF50 (by kernel_rfl) (by kernel_rfl) (by kernel_rfl) (fun _ _ _ h => h) (Or.inl ⟨?wF50, ?yF50⟩) (by assumption) ?rF50
      case hiF50 => (simp only [List.getElem?_toArray, List.getElem?_cons_succ, List.getElem?_cons_zero]; try rfl)
      case wF50 => rfl
      case yF50 => (intro w hSw; (try dsimp only at hSw); go_simp; (try with_reducible rfl))
      (try simp only [Act.put, List.setIfInBounds_toArray, List.set_cons_zero, List.set_cons_succ])
      refine wpAnyH_take (i := 51) (oi := ?oF51) (v := ?vF51) ?hiF51 (by kernel_rfl) (by kernel_rfl) (by kernel_rfl) (fun _ _ _ h => h) (Or.inl ⟨?wF51, ?yF51⟩) (by assumption) ?rF51
      case hiF51 => (simp only [List.getElem?_toArray, List.getElem?_cons_succ, List.getElem?_cons_zero]; try rfl)
      case wF51 => rfl
      case yF51 => (intro w hSw; (try dsimp only at hSw); go_simp; (try with_reducible rfl))
      (try simp only [Act.put, List.setIfInBounds_toArray, List.set_cons_zero, List.set_cons_succ])
      refine wpAnyH_ready (rs := [52]) (by kernel_rfl) (by simp) ?_
      refine AllReadyH.cons (o := ?oF52) ?hiF52 (fun K hK => ?_) AllReadyH.nil
      case hiF52 => (simp only [List.getElem?_toArray, List.getElem?_cons_succ, List.getElem?_cons_zero]; try rfl)
      go_simp
      (go_at_call 19; refine (HB.out _).mono ?_; rintro e w3 ⟨v3, rfl, hv3, hk3, _⟩; have K3 : Hid (Keep NoF w2 w3) := Lib.hid hk3.of_drew; obtain ⟨g3, cp3, rfl, hsl3, _, _⟩ := own_at hv3 HWL.out (by decide); have hc3 := conv_at hsl3 HWL.out; clear hv3 hk3 hsl3)
      go_wp2_with fail
      refine hK.out _ _ (And.intro (HCE.out _ K3.out) (HCB.out _ ((K2.out.trans' K3.out).block B HLB.out.1 (fun f => f)))) (fun hHeld => ?_)
      clear hK K
      (try simp only [Act.put, List.setIfInBounds_toArray, List.set_cons_zero, List.set_cons_succ])
      refine wpAnyH_ready (rs := [53]) (by kernel_rfl) (by simp) ?_
      refine AllReadyH.cons (o := ?oF53) ?hiF53 (fun K hK => ?_) AllReadyH.nil
      case hiF53 => (simp only [List.getElem?_toArray, List.getElem?_cons_succ, List.getElem?_cons_zero]; try rfl)
      go_simp
      refine hK.out _ _ (And.intro (HCE.out _ K3.out) (HCB.out _ ((K2.out.trans' K3.out).block B HLB.out.1 (fun f => f)))) (fun hHeld => ?_)
      clear hK K
      (try simp only [Act.put, List.setIfInBounds_toArray, List.set_cons_zero, List.set_cons_succ])
      refine wpAnyH_take (i := 54) (oi := ?oF54) (v := ?vF54) ?hiF54 (by kernel_rfl) (by kernel_rfl) (by kernel_rfl) (fun _ _ _ h => h) (Or.inl ⟨?wF54, ?yF54⟩) (by assumption) ?rF54
      case hiF54 => (simp only [List.getElem?_toArray, List.getElem?_cons_succ, List.getElem?_cons_zero]; try rfl)
      case wF54 => rfl
      case yF54 => (intro w hSw; (try dsimp only at hSw); go_simp; (try with_reducible rfl))
      (try simp only [Act.put, List.setIfInBounds_toArray, List.set_cons_zero, List.set_cons_succ])
      refine wpAnyH_take (i := 55) (oi := ?oF55) (v := ?vF55) ?hiF55 (by kernel_rfl) (by kernel_rfl) (by kernel_rfl) (fun _ _ _ h => h) (Or.inl ⟨?wF55, ?yF55⟩) (by assumption) ?rF55
      case hiF55 => (simp only [List.getElem?_toArray, List.getElem?_cons_succ, List.getElem?_cons_zero]; try rfl)
      case wF55 => rfl
      case yF55 => (intro w hSw; (try dsimp only at hSw); go_simp; (try with_reducible rfl))
      (try simp only [Act.put, List.setIfInBounds_toArray, List.set_cons_zero, List.set_cons_succ])
      refine wpAnyH_take (i := 56) (oi := ?oF56) (v := ?vF56) ?hiF56 (by kernel_rfl) (by kernel_rfl) (by kernel_rfl) (fun _ _ _ h => h) (Or.inl ⟨?wF56, ?yF56⟩) (by assumption) ?rF56
      case hiF56 => (simp only [List.getElem?_toArray, List.getElem?_cons_succ, List.getElem?_cons_zero]; try rfl)
      case wF56 => rfl
      case yF56 => (intro w hSw; (try dsimp only at hSw); go_simp; (try with_reducible rfl))
      (try simp only [Act.put, List.setIfInBounds_toArray, List.set_cons_zero, List.set_cons_succ])
      refine wpAnyH_done (by kernel_rfl) ?_ _
      refine NoPanic.normal ?_
      go_wp2_with fail
      go_ret
      exact ⟨rfl, HKB.out.trans' (K2.out.trans' K3.out)⟩
    · simp only [if_true] at HCE
      have hk0 := And.intro (HCE.out w2.drew (Keep.refl NoF w2).drew) (HCB.out w2.drew (K2.out.block B HLB.out.1 (fun f => f)))
      refine wp_region_noPanic ?_
      refine wp_region_held_drew (S := (fun W' : World => (W'.cell? ⟨g, 0, none⟩ = some (.int .u8 k) ∧ W'.cell? ⟨g, 2, none⟩ = some (.int .u8 f) ∧ W'.cell? ⟨g, 4, none⟩ = some (.int .u8 t) ∧ W'.cell? ⟨g, 14, none⟩ = some (.int .u8 n) ∧ W'.cell? ⟨g, 16, none⟩ = some (.int .u8 1) ∧ (convert 24 9 (.slice (some ⟨g, 0, none⟩) 21 cp)).run Tryz.prog W' = .ok (.string (bstr A)) W') ∧ (W'.cell? ⟨B, 0, none⟩ = some (.int .i64 k) ∧ W'.cell? ⟨B, 1, none⟩ = some (.int .i64 f) ∧ W'.cell? ⟨B, 2, none⟩ = some (.int .i64 t) ∧ W'.cell? ⟨B, 3, none⟩ = some (.int .i64 d) ∧ W'.cell? ⟨B, 4, none⟩ = some (.int .i64 n) ∧ W'.cell? ⟨B, 5, none⟩ = some (.bool true)))) (by kernel_rfl) (hk0) (fun hHeld => ?_)
      refine wpAnyH_take (i := 0) (oi := ?oG0) (v := ?vG0) ?hiG0 (by kernel_rfl) (by kernel_rfl) (by kernel_rfl) (fun _ _ _ h => h) (Or.inl ⟨?wG0, ?yG0⟩) (by assumption) ?rG0
      case hiG0 => (simp only [List.getElem?_toArray, List.getElem?_cons_zero]; try rfl)
      case wG0 => rfl
      case yG0 => (intro w hSw; (try dsimp only at hSw); go_simp; (try with_reducible rfl))
      (try simp only [Act.put, List.setIfInBounds_toArray, List.set_cons_zero, List.set_cons_succ])
      refine wpAnyH_take (i := 1) (oi := ?oG1) (v := ?vG1) ?hiG1 (by kernel_rfl) (by kernel_rfl) (by kernel_rfl) (fun _ _ _ h => h) (Or.inl ⟨?wG1, ?yG1⟩) (by assumption) ?rG1
      case hiG1 => (simp only [List.getElem?_toArray, List.getElem?_cons_succ, List.getElem?_cons_zero]; try rfl)
      case wG1 => rfl
      case yG1 => (intro w hSw; (try dsimp only at hSw); go_simp; (try with_reducible rfl))
      (try simp only [Act.put, List.setIfInBounds_toArray, List.set_cons_zero, List.set_cons_succ])
      refine wpAnyH_take (i := 2) (oi := ?oG2) (v := ?vG2) ?hiG2 (by kernel_rfl) (by kernel_rfl) (by kernel_rfl) (fun _ _ _ h => h) (Or.inl ⟨?wG2, ?yG2⟩) (by assumption) ?rG2
      case hiG2 => (simp only [List.getElem?_toArray, List.getElem?_cons_succ, List.getElem?_cons_zero]; try rfl)
      case wG2 => rfl
      case yG2 => (intro w hSw; (try dsimp only at hSw); go_simp; (try with_reducible rfl))
      (try simp only [Act.put, List.setIfInBounds_toArray, List.set_cons_zero, List.set_cons_succ])
      refine wpAnyH_take (i := 3) (oi := ?oG3) (v := ?vG3) ?hiG3 (by kernel_rfl) (by kernel_rfl) (by kernel_rfl) (fun _ _ _ h => h) (Or.inl ⟨?wG3, ?yG3⟩) (by assumption) ?rG3
      case hiG3 => (simp only [List.getElem?_toArray, List.getElem?_cons_succ, List.getElem?_cons_zero]; try rfl)
      case wG3 => rfl
      case yG3 => (intro w hSw; (try dsimp only at hSw); go_simp; (try with_reducible rfl))
      (try simp only [Act.put, List.setIfInBounds_toArray, List.set_cons_zero, List.set_cons_succ])
      refine wpAnyH_take (i := 4) (oi := ?oG4) (v := ?vG4) ?hiG4 (by kernel_rfl) (by kernel_rfl) (by kernel_rfl) (fun _ _ _ h => h) (Or.inl ⟨?wG4, ?yG4⟩) (by assumption) ?rG4
      case hiG4 => (simp only [List.getElem?_toArray, List.getElem?_cons_succ, List.getElem?_cons_zero]; try rfl)
      case wG4 => rfl
      case yG4 => (intro w hSw; (try dsimp only at hSw); go_simp; (try with_reducible rfl))
      (try simp only [Act.put, List.setIfInBounds_toArray, List.set_cons_zero, List.set_cons_succ])
      refine wpAnyH_take (i := 5) (oi := ?oG5) (v := ?vG5) ?hiG5 (by kernel_rfl) (by kernel_rfl) (by kernel_rfl) (fun _ _ _ h => h) (Or.inl ⟨?wG5, ?yG5⟩) (by assumption) ?rG5
      case hiG5 => (simp only [List.getElem?_toArray, List.getElem?_cons_succ, List.getElem?_cons_zero]; try rfl)
      case wG5 => rfl
      case yG5 => (intro w hSw; (try dsimp only at hSw); go_simp; (try with_reducible rfl))
      (try simp only [Act.put, List.setIfInBounds_toArray, List.set_cons_zero, List.set_cons_succ])
      refine wpAnyH_take (i := 6) (oi := ?oG6) (v := ?vG6) ?hiG6 (by kernel_rfl) (by kernel_rfl) (by kernel_rfl) (fun _ _ _ h => h) (Or.inl ⟨?wG6, ?yG6⟩) (by assumption) ?rG6
      case hiG6 => (simp only [List.getElem?_toArray, List.getElem?_cons_succ, List.getElem?_cons_zero]; try rfl)
      case wG6 => rfl
      case yG6 => (intro w hSw; (try dsimp only at hSw); go_simp; (try with_reducible rfl))
      (try simp only [Act.put, List.setIfInBounds_toArray, List.set_cons_zero, List.set_cons_succ])
      refine wpAnyH_take (i := 7) (oi := ?oG7) (v := ?vG7) ?hiG7 (by kernel_rfl) (by kernel_rfl) (by kernel_rfl) (fun _ _ _ h => h) (Or.inl ⟨?wG7, ?yG7⟩) (by assumption) ?rG7
      case hiG7 => (simp only [List.getElem?_toArray, List.getElem?_cons_succ, List.getElem?_cons_zero]; try rfl)
      case wG7 => rfl
      case yG7 => (intro w hSw; (try dsimp only at hSw); go_simp; (try with_reducible rfl))
      (try simp only [Act.put, List.setIfInBounds_toArray, List.set_cons_zero, List.set_cons_succ])
      refine wpAnyH_take (i := 8) (oi := ?oG8) (v := ?vG8) ?hiG8 (by kernel_rfl) (by kernel_rfl) (by kernel_rfl) (fun _ _ _ h => h) (Or.inl ⟨?wG8, ?yG8⟩) (by assumption) ?rG8
      case hiG8 => (simp only [List.getElem?_toArray, List.getElem?_cons_succ, List.getElem?_cons_zero]; try rfl)
      case wG8 => rfl
      case yG8 => (intro w hSw; (try dsimp only at hSw); go_simp; (try with_reducible rfl))
      (try simp only [Act.put, List.setIfInBounds_toArray, List.set_cons_zero, List.set_cons_succ])
      refine wpAnyH_take (i := 9) (oi := ?oG9) (v := ?vG9) ?hiG9 (by kernel_rfl) (by kernel_rfl) (by kernel_rfl) (fun _ _ _ h => h) (Or.inl ⟨?wG9, ?yG9⟩) (by assumption) ?rG9
      case hiG9 => (simp only [List.getElem?_toArray, List.getElem?_cons_succ, List.getElem?_cons_zero]; try rfl)
      case wG9 => rfl
      case yG9 => (intro w hSw; (try dsimp only at hSw); go_simp; (try with_reducible rfl))
      (try simp only [Act.put, List.setIfInBounds_toArray, List.set_cons_zero, List.set_cons_succ])
      refine wpAnyH_take (i := 10) (oi := ?oG10) (v := ?vG10) ?hiG10 (by kernel_rfl) (by kernel_rfl) (by kernel_rfl) (fun _ _ _ h => h) (Or.inl ⟨?wG10, ?yG10⟩) (by assumption) ?rG10
      case hiG10 => (simp only [List.getElem?_toArray, List.getElem?_cons_succ, List.getElem?_cons_zero]; try rfl)
      case wG10 => rfl
      case yG10 => (intro w hSw; (try dsimp only at hSw); go_simp; (try with_reducible rfl))
      (try simp only [Act.put, List.setIfInBounds_toArray, List.set_cons_zero, List.set_cons_succ])
      refine wpAnyH_take (i := 11) (oi := ?oG11) (v := ?vG11) ?hiG11 (by kernel_rfl) (by kernel_rfl) (by kernel_rfl) (fun _ _ _ h => h) (Or.inl ⟨?wG11, ?yG11⟩) (by assumption) ?rG11
      case hiG11 => (simp only [List.getElem?_toArray, List.getElem?_cons_succ, List.getElem?_cons_zero]; try rfl)
      case wG11 => rfl
      case yG11 => (intro w hSw; (try dsimp only at hSw); go_simp; (try with_reducible rfl))
      (try simp only [Act.put, List.setIfInBounds_toArray, List.set_cons_zero, List.set_cons_succ])
      refine wpAnyH_take (i := 12) (oi := ?oG12) (v := ?vG12) ?hiG12 (by kernel_rfl) (by kernel_rfl) (by kernel_rfl) (fun _ _ _ h => h) (Or.inl ⟨?wG12, ?yG12⟩) (by assumption) ?rG12
      case hiG12 => (simp only [List.getElem?_toArray, List.getElem?_cons_succ, List.getElem?_cons_zero]; try rfl)
      case wG12 => rfl
      case yG12 => (intro w hSw; (try dsimp only at hSw); go_simp; (try with_reducible rfl))
      (try simp only [Act.put, List.setIfInBounds_toArray, List.set_cons_zero, List.set_cons_succ])
      refine wpAnyH_take (i := 13) (oi := ?oG13) (v := ?vG13) ?hiG13 (by kernel_rfl) (by kernel_rfl) (by kernel_rfl) (fun _ _ _ h => h) (Or.inl ⟨?wG13, ?yG13⟩) (by assumption) ?rG13
      case hiG13 => (simp only [List.getElem?_toArray, List.getElem?_cons_succ, List.getElem?_cons_zero]; try rfl)
      case wG13 => rfl
      case yG13 => (intro w hSw; (try dsimp only at hSw); go_simp; (try with_reducible rfl))
      (try simp only [Act.put, List.setIfInBounds_toArray, List.set_cons_zero, List.set_cons_succ])
      refine wpAnyH_take (i := 14) (oi := ?oG14) (v := ?vG14) ?hiG14 (by kernel_rfl) (by kernel_rfl) (by kernel_rfl) (fun _ _ _ h => h) (Or.inl ⟨?wG14, ?yG14⟩) (by assumption) ?rG14
      case hiG14 => (simp only [List.getElem?_toArray, List.getElem?_cons_succ, List.getElem?_cons_zero]; try rfl)
      case wG14 => rfl
      case yG14 => (intro w hSw; (try dsimp only at hSw); go_simp; (try with_reducible rfl))
      (try simp only [Act.put, List.setIfInBounds_toArray, List.set_cons_zero, List.set_cons_succ])
      refine wpAnyH_take (i := 15) (oi := ?oG15) (v := ?vG15) ?hiG15 (by kernel_rfl) (by kernel_rfl) (by kernel_rfl) (fun _ _ _ h => h) (Or.inl ⟨?wG15, ?yG15⟩) (by assumption) ?rG15
      case hiG15 => (simp only [List.getElem?_toArray, List.getElem?_cons_succ, List.getElem?_cons_zero]; try rfl)
      case wG15 => rfl
      case yG15 => (intro w hSw; (try dsimp only at hSw); go_simp; (try with_reducible rfl))
      (try simp only [Act.put, List.setIfInBounds_toArray, List.set_cons_zero, List.set_cons_succ])
      refine wpAnyH_take (i := 16) (oi := ?oG16) (v := ?vG16) ?hiG16 (by kernel_rfl) (by kernel_rfl) (by kernel_rfl) (fun _ _ _ h => h) (Or.inl ⟨?wG16, ?yG16⟩) (by assumption) ?rG16
      case hiG16 => (simp only [List.getElem?_toArray, List.getElem?_cons_succ, List.getElem?_cons_zero]; try rfl)
      case wG16 => rfl
      case yG16 => (intro w hSw; (try dsimp only at hSw); go_simp; (try with_reducible rfl))
      (try simp only [Act.put, List.setIfInBounds_toArray, List.set_cons_zero, List.set_cons_succ])
      refine wpAnyH_take (i := 17) (oi := ?oG17) (v := ?vG17) ?hiG17 (by kernel_rfl) (by kernel_rfl) (by kernel_rfl) (fun _ _ _ h => h) (Or.inl ⟨?wG17, ?yG17⟩) (by assumption) ?rG17
      case hiG17 => (simp only [List.getElem?_toArray, List.getElem?_cons_succ, List.getElem?_cons_zero]; try rfl)
      case wG17 => rfl
      case yG17 => (intro w hSw; (try dsimp only at hSw); go_simp; (try with_reducible rfl))
      (try simp only [Act.put, List.setIfInBounds_toArray, List.set_cons_zero, List.set_cons_succ])
      refine wpAnyH_take (i := 18) (oi := ?oG18) (v := ?vG18) ?hiG18 (by kernel_rfl) (by kernel_rfl) (by kernel_rfl) (fun _ _ _ h => h) (Or.inl ⟨?wG18, ?yG18⟩) (by assumption) ?rG18
      case hiG18 => (simp only [List.getElem?_toArray, List.getElem?_cons_succ, List.getElem?_cons_zero]; try rfl)
      case wG18 => rfl
      case yG18 => (intro w hSw; (try dsimp only at hSw); go_simp; (try with_reducible rfl))
      (try simp only [Act.put, List.setIfInBounds_toArray, List.set_cons_zero, List.set_cons_succ])
      refine wpAnyH_take (i := 19) (oi := ?oG19) (v := ?vG19) ?hiG19 (by kernel_rfl) (by kernel_rfl) (by kernel_rfl) (fun _ _ _ h => h) (Or.inl ⟨?wG19, ?yG19⟩) (by assumption) ?rG19
      case hiG19 => (simp only [List.getElem?_toArray, List.getElem?_cons_succ, List.getElem?_cons_zero]; try rfl)
      case wG19 => rfl
      case yG19 => (intro w hSw; (try dsimp only at hSw); go_simp; (try with_reducible rfl))
      (try simp only [Act.put, List.setIfInBounds_toArray, List.set_cons_zero, List.set_cons_succ])
      refine wpAnyH_take (i := 20) (oi := ?oG20) (v := ?vG20) ?hiG20 (by kernel_rfl) (by kernel_rfl) (by kernel_rfl) (fun _ _ _ h => h) (Or.inl ⟨?wG20, ?yG20⟩) (by assumption) ?rG20
      case hiG20 => (simp only [List.getElem?_toArray, List.getElem?_cons_succ, List.getElem?_cons_zero]; try rfl)
      case wG20 => rfl
      case yG20 => (intro w hSw; (try dsimp only at hSw); go_simp; (try with_reducible rfl))
      (try simp only [Act.put, List.setIfInBounds_toArray, List.set_cons_zero, List.set_cons_succ])
      refine wpAnyH_take (i := 21) (oi := ?oG21) (v := ?vG21) ?hiG21 (by kernel_rfl) (by kernel_rfl) (by kernel_rfl) (fun _ _ _ h => h) (Or.inl ⟨?wG21, ?yG21⟩) (by assumption) ?rG21
      case hiG21 => (simp only [List.getElem?_toArray, List.getElem?_cons_succ, List.getElem?_cons_zero]; try rfl)
      case wG21 => rfl
      case yG21 => (intro w hSw; (try dsimp only at hSw); go_simp; (try with_reducible rfl))
      (try simp only [Act.put, List.setIfInBounds_toArray, List.set_cons_zero, List.set_cons_succ])
      refine wpAnyH_take (i := 22) (oi := ?oG22) (v := ?vG22) ?hiG22 (by kernel_rfl) (by kernel_rfl) (by kernel_rfl) (fun _ _ _ h => h) (Or.inl ⟨?wG22, ?yG22⟩) (by assumption) ?rG22
      case hiG22 => (simp only [List.getElem?_toArray, List.getElem?_cons_succ, List.getElem?_cons_zero]; try rfl)
      case wG22 => rfl
      case yG22 => (intro w hSw; (try dsimp only at hSw); go_simp; (try with_reducible rfl))
      (try simp only [Act.put, List.setIfInBounds_toArray, List.set_cons_zero, List.set_cons_succ])
      refine wpAnyH_take (i := 23) (oi := ?oG23) (v := ?vG23) ?hiG23 (by kernel_rfl) (by kernel_rfl) (by kernel_rfl) (fun _ _ _ h => h) (Or.inl ⟨?wG23, ?yG23⟩) (by assumption) ?rG23
      case hiG23 => (simp only [List.getElem?_toArray, List.getElem?_cons_succ, List.getElem?_cons_zero]; try rfl)
      case wG23 => rfl
      case yG23 => (intro w hSw; (try dsimp only at hSw); go_simp; (try with_reducible rfl))
      (try simp only [Act.put, List.setIfInBounds_toArray, List.set_cons_zero, List.set_cons_succ])
      refine wpAnyH_take (i := 24) (oi := ?oG24) (v := ?vG24) ?hiG24 (by kernel_rfl) (by kernel_rfl) (by kernel_rfl) (fun _ _ _ h => h) (Or.inl ⟨?wG24, ?yG24⟩) (by assumption) ?rG24
      case hiG24 => (simp only [List.getElem?_toArray, List.getElem?_cons_succ, List.getElem?_cons_zero]; try rfl)
      case wG24 => rfl
      case yG24 => (intro w hSw; (try dsimp only at hSw); go_simp; (try with_reducible rfl))
      (try simp only [Act.put, List.setIfInBounds_toArray, List.set_cons_zero, List.set_cons_succ])
      refine wpAnyH_take (i := 25) (oi := ?oG25) (v := ?vG25) ?hiG25 (by kernel_rfl) (by kernel_rfl) (by kernel_rfl) (fun _ _ _ h => h) (Or.inl ⟨?wG25, ?yG25⟩) (by assumption) ?rG25
      case hiG25 => (simp only [List.getElem?_toArray, List.getElem?_cons_succ, List.getElem?_cons_zero]; try rfl)
      case wG25 => rfl
      case yG25 => (intro w hSw; (try dsimp only at hSw); go_simp; (try with_reducible rfl))
      (try simp only [Act.put, List.setIfInBounds_toArray, List.set_cons_zero, List.set_cons_succ])
      refine wpAnyH_take (i := 26) (oi := ?oG26) (v := ?vG26) ?hiG26 (by kernel_rfl) (by kernel_rfl) (by kernel_rfl) (fun _ _ _ h => h) (Or.inl ⟨?wG26, ?yG26⟩) (by assumption) ?rG26
      case hiG26 => (simp only [List.getElem?_toArray, List.getElem?_cons_succ, List.getElem?_cons_zero]; try rfl)
      case wG26 => rfl
      case yG26 => (intro w hSw; (try dsimp only at hSw); go_simp; (try with_reducible rfl))
      (try simp only [Act.put, List.setIfInBounds_toArray, List.set_cons_zero, List.set_cons_succ])
      refine wpAnyH_take (i := 27) (oi := ?oG27) (v := ?vG27) ?hiG27 (by kernel_rfl) (by kernel_rfl) (by kernel_rfl) (fun _ _ _ h => h) (Or.inl ⟨?wG27, ?yG27⟩) (by assumption) ?rG27
      case hiG27 => (simp only [List.getElem?_toArray, List.getElem?_cons_succ, List.getElem?_cons_zero]; try rfl)
      case wG27 => rfl
      case yG27 => (intro w hSw; (try dsimp only at hSw); go_simp; (try with_reducible rfl))
      (try simp only [Act.put, List.setIfInBounds_toArray, List.set_cons_zero, List.set_cons_succ])
      refine wpAnyH_take (i := 28) (oi := ?oG28) (v := ?vG28) ?hiG28 (by kernel_rfl) (by kernel_rfl) (by kernel_rfl) (fun _ _ _ h => h) (Or.inl ⟨?wG28, ?yG28⟩) (by assumption) ?rG28
      case hiG28 => (simp only [List.getElem?_toArray, List.getElem?_cons_succ, List.getElem?_cons_zero]; try rfl)
      case wG28 => rfl
      case yG28 => (intro w hSw; (try dsimp only at hSw); go_simp; (try with_reducible rfl))
      (try simp only [Act.put, List.setIfInBounds_toArray, List.set_cons_zero, List.set_cons_succ])
      refine wpAnyH_take (i := 29) (oi := ?oG29) (v := ?vG29) ?hiG29 (by kernel_rfl) (by kernel_rfl) (by kernel_rfl) (fun _ _ _ h => h) (Or.inl ⟨?wG29, ?yG29⟩) (by assumption) ?rG29
      case hiG29 => (simp only [List.getElem?_toArray, List.getElem?_cons_succ, List.getElem?_cons_zero]; try rfl)
      case wG29 => rfl
      case yG29 => (intro w hSw; (try dsimp only at hSw); go_simp; (try with_reducible rfl))
      (try simp only [Act.put, List.setIfInBounds_toArray, List.set_cons_zero, List.set_cons_succ])
      refine wpAnyH_take (i := 30) (oi := ?oG30) (v := ?vG30) ?hiG30 (by kernel_rfl) (by kernel_rfl) (by kernel_rfl) (fun _ _ _ h => h) (Or.inl ⟨?wG30, ?yG30⟩) (by assumption) ?rG30
      case hiG30 => (simp only [List.getElem?_toArray, List.getElem?_cons_succ, List.getElem?_cons_zero]; try rfl)
      case wG30 => rfl
      case yG30 => (intro w hSw; (try dsimp only at hSw); go_simp; (try with_reducible rfl))
      (try simp only [Act.put, List.setIfInBounds_toArray, List.set_cons_zero, List.set_cons_succ])
      refine wpAnyH_take (i := 31) (oi := ?oG31) (v := ?vG31) ?hiG31 (by kernel_rfl) (by kernel_rfl) (by kernel_rfl) (fun _ _ _ h => h) (Or.inl ⟨?wG31, ?yG31⟩) (by assumption) ?rG31
      case hiG31 => (simp only [List.getElem?_toArray, List.getElem?_cons_succ, List.getElem?_cons_zero]; try rfl)
      case wG31 => rfl
      case yG31 => (intro w hSw; (try dsimp only at hSw); go_simp; (try with_reducible rfl))
      (try simp only [Act.put, List.setIfInBounds_toArray, List.set_cons_zero, List.set_cons_succ])
      refine wpAnyH_take (i := 32) (oi := ?oG32) (v := ?vG32) ?hiG32 (by kernel_rfl) (by kernel_rfl) (by kernel_rfl) (fun _ _ _ h => h) (Or.inl ⟨?wG32, ?yG32⟩) (by assumption) ?rG32
      case hiG32 => (simp only [List.getElem?_toArray, List.getElem?_cons_succ, List.getElem?_cons_zero]; try rfl)
      case wG32 => rfl
      case yG32 => (intro w hSw; (try dsimp only at hSw); go_simp; (try with_reducible rfl))
      (try simp only [Act.put, List.setIfInBounds_toArray, List.set_cons_zero, List.set_cons_succ])
      refine wpAnyH_take (i := 33) (oi := ?oG33) (v := ?vG33) ?hiG33 (by kernel_rfl) (by kernel_rfl) (by kernel_rfl) (fun _ _ _ h => h) (Or.inl ⟨?wG33, ?yG33⟩) (by assumption) ?rG33
      case hiG33 => (simp only [List.getElem?_toArray, List.getElem?_cons_succ, List.getElem?_cons_zero]; try rfl)
      case wG33 => rfl
      case yG33 => (intro w hSw; (try dsimp only at hSw); go_simp; (try with_reducible rfl))
      (try simp only [Act.put, List.setIfInBounds_toArray, List.set_cons_zero, List.set_cons_succ])
      refine wpAnyH_take (i := 34) (oi := ?oG34) (v := ?vG34) ?hiG34 (by kernel_rfl) (by kernel_rfl) (by kernel_rfl) (fun _ _ _ h => h) (Or.inl ⟨?wG34, ?yG34⟩) (by assumption) ?rG34
      case hiG34 => (simp only [List.getElem?_toArray, List.getElem?_cons_succ, List.getElem?_cons_zero]; try rfl)
      case wG34 => rfl
      case yG34 => (intro w hSw; (try dsimp only at hSw); go_simp; (try with_reducible rfl))
      (try simp only [Act.put, List.setIfInBounds_toArray, List.set_cons_zero, List.set_cons_succ])
      refine wpAnyH_take (i := 35) (oi := ?oG35) (v := ?vG35) ?hiG35 (by kernel_rfl) (by kernel_rfl) (by kernel_rfl) (fun _ _ _ h => h) (Or.inl ⟨?wG35, ?yG35⟩) (by assumption) ?rG35
      case hiG35 => (simp only [List.getElem?_toArray, List.getElem?_cons_succ, List.getElem?_cons_zero]; try rfl)
      case wG35 => rfl
      case yG35 => (intro w hSw; (try dsimp only at hSw); go_simp; (try with_reducible rfl))
      (try simp only [Act.put, List.setIfInBounds_toArray, List.set_cons_zero, List.set_cons_succ])
      refine wpAnyH_take (i := 36) (oi := ?oG36) (v := ?vG36) ?hiG36 (by kernel_rfl) (by kernel_rfl) (by kernel_rfl) (fun _ _ _ h => h) (Or.inl ⟨?wG36, ?yG36⟩) (by assumption) ?rG36
      case hiG36 => (simp only [List.getElem?_toArray, List.getElem?_cons_succ, List.getElem?_cons_zero]; try rfl)
      case wG36 => rfl
      case yG36 => (intro w hSw; (try dsimp only at hSw); go_simp; (try with_reducible rfl))
      (try simp only [Act.put, List.setIfInBounds_toArray, List.set_cons_zero, List.set_cons_succ])
      refine wpAnyH_take (i := 37) (oi := ?oG37) (v := ?vG37) ?hiG37 (by kernel_rfl) (by kernel_rfl) (by kernel_rfl) (fun _ _ _ h => h) (Or.inl ⟨?wG37, ?yG37⟩) (by assumption) ?rG37
      case hiG37 => (simp only [List.getElem?_toArray, List.getElem?_cons_succ, List.getElem?_cons_zero]; try rfl)
      case wG37 => rfl
      case yG37 => (intro w hSw; (try dsimp only at hSw); go_simp; (try with_reducible rfl))
      (try simp only [Act.put, List.setIfInBounds_toArray, List.set_cons_zero, List.set_cons_succ])
      refine wpAnyH_take (i := 38) (oi := ?oG38) (v := ?vG38) ?hiG38 (by kernel_rfl) (by kernel_rfl) (by kernel_rfl) (fun _ _ _ h => h) (Or.inl ⟨?wG38, ?yG38⟩) (by assumption) ?rG38
      case hiG38 => (simp only [List.getElem?_toArray, List.getElem?_cons_succ, List.getElem?_cons_zero]; try rfl)
      case wG38 => rfl
      case yG38 => (intro w hSw; (try dsimp only at hSw); go_simp; (try with_reducible rfl))
      (try simp only [Act.put, List.setIfInBounds_toArray, List.set_cons_zero, List.set_cons_succ])
      refine wpAnyH_take (i := 39) (oi := ?oG39) (v := ?vG39) ?hiG39 (by kernel_rfl) (by kernel_rfl) (by kernel_rfl) (fun _ _ _ h => h) (Or.inl ⟨?wG39, ?yG39⟩) (by assumption) ?rG39
      case hiG39 => (simp only [List.getElem?_toArray, List.getElem?_cons_succ, List.getElem?_cons_zero]; try rfl)
      case wG39 => rfl
      case yG39 => (intro w hSw; (try dsimp only at hSw); go_simp; (try with_reducible rfl))
      (try simp only [Act.put, List.setIfInBounds_toArray, List.set_cons_zero, List.set_cons_succ])
      refine wpAnyH_take (i := 40) (oi := ?oG40) (v := ?vG40) ?hiG40 (by kernel_rfl) (by kernel_rfl) (by kernel_rfl) (fun _ _ _ h => h) (Or.inl ⟨?wG40, ?yG40⟩) (by assumption) ?rG40
      case hiG40 => (simp only [List.getElem?_toArray, List.getElem?_cons_succ, List.getElem?_cons_zero]; try rfl)
      case wG40 => rfl
      case yG40 => (intro w hSw; (try dsimp only at hSw); go_simp; (try with_reducible rfl))
      (try simp only [Act.put, List.setIfInBounds_toArray, List.set_cons_zero, List.set_cons_succ])
      refine wpAnyH_take (i := 41) (oi := ?oG41) (v := ?vG41) ?hiG41 (by kernel_rfl) (by kernel_rfl) (by kernel_rfl) (fun _ _ _ h => h) (Or.inl ⟨?wG41, ?yG41⟩) (by assumption) ?rG41
      case hiG41 => (simp only [List.getElem?_toArray, List.getElem?_cons_succ, List.getElem?_cons_zero]; try rfl)
      case wG41 => rfl
      case yG41 => (intro w hSw; (try dsimp only at hSw); go_simp; (try with_reducible rfl))
      (try simp only [Act.put, List.setIfInBounds_toArray, List.set_cons_zero, List.set_cons_succ])
      refine wpAnyH_take (i := 42) (oi := ?oG42) (v := ?vG42) ?hiG42 (by kernel_rfl) (by kernel_rfl) (by kernel_rfl) (fun _ _ _ h => h) (Or.inl ⟨?wG42, ?yG42⟩) (by assumption) ?rG42
      case hiG42 => (simp only [List.getElem?_toArray, List.getElem?_cons_succ, List.getElem?_cons_zero]; try rfl)
      case wG42 => rfl
      case yG42 => (intro w hSw; (try dsimp only at hSw); go_simp; (try with_reducible rfl))
      (try simp only [Act.put, List.setIfInBounds_toArray, List.set_cons_zero, List.set_cons_succ])
      refine wpAnyH_take (i := 43) (oi := ?oG43) (v := ?vG43) ?hiG43 (by kernel_rfl) (by kernel_rfl) (by kernel_rfl) (fun _ _ _ h => h) (Or.inl ⟨?wG43, ?yG43⟩) (by assumption) ?rG43
      case hiG43 => (simp only [List.getElem?_toArray, List.getElem?_cons_succ, List.getElem?_cons_zero]; try rfl)
      case wG43 => rfl
      case yG43 => (intro w hSw; (try dsimp only at hSw); go_simp; (try with_reducible rfl))
      (try simp only [Act.put, List.setIfInBounds_toArray, List.set_cons_zero, List.set_cons_succ])
      refine wpAnyH_take (i := 44) (oi := ?oG44) (v := ?vG44) ?hiG44 (by kernel_rfl) (by kernel_rfl) (by kernel_rfl) (fun _ _ _ h => h) (Or.inl ⟨?wG44, ?yG44⟩) (by assumption) ?rG44
      case hiG44 => (simp only [List.getElem?_toArray, List.getElem?_cons_succ, List.getElem?_cons_zero]; try rfl)
      case wG44 => rfl
      case yG44 => (intro w hSw; (try dsimp only at hSw); go_simp; (try with_reducible rfl))
      (try simp only [Act.put, List.setIfInBounds_toArray, List.set_cons_zero, List.set_cons_succ])
      refine wpAnyH_take (i := 45) (oi := ?oG45) (v := ?vG45) ?hiG45 (by kernel_rfl) (by kernel_rfl) (by kernel_rfl) (fun _ _ _ h => h) (Or.inl ⟨?wG45, ?yG45⟩) (by assumption) ?rG45
      case hiG45 => (simp only [List.getElem?_toArray, List.getElem?_cons_succ, List.getElem?_cons_zero]; try rfl)
      case wG45 => rfl
      case yG45 => (intro w hSw; (try dsimp only at hSw); go_simp; (try with_reducible rfl))
      (try simp only [Act.put, List.setIfInBounds_toArray, List.set_cons_zero, List.set_cons_succ])
      refine wpAnyH_take (i := 46) (oi := ?oG46) (v := ?vG46) ?hiG46 (by kernel_rfl) (by kernel_rfl) (by kernel_rfl) (fun _ _ _ h => h) (Or.inl ⟨?wG46, ?yG46⟩) (by assumption) ?rG46
      case hiG46 => (simp only [List.getElem?_toArray, List.getElem?_cons_succ, List.getElem?_cons_zero]; try rfl)
      case wG46 => rfl
      case yG46 => (intro w hSw; (try dsimp only at hSw); go_simp; (try with_reducible rfl))
      (try simp only [Act.put, List.setIfInBounds_toArray, List.set_cons_zero, List.set_cons_succ])
      refine wpAnyH_take (i := 47) (oi := ?oG47) (v := ?vG47) ?hiG47 (by kernel_rfl) (by kernel_rfl) (by kernel_rfl) (fun _ _ _ h => h) (Or.inl ⟨?wG47, ?yG47⟩) (by assumption) ?rG47
      case hiG47 => (simp only [List.getElem?_toArray, List.getElem?_cons_succ, List.getElem?_cons_zero]; try rfl)
      case wG47 => rfl
      case yG47 => (intro w hSw; (try dsimp only at hSw); go_simp; (try with_reducible rfl))
      (try simp only [Act.put, List.setIfInBounds_toArray, List.set_cons_zero, List.set_cons_succ])
      refine wpAnyH_take (i := 48) (oi := ?oG48) (v := ?vG48) ?hiG48 (by kernel_rfl) (by kernel_rfl) (by kernel_rfl) (fun _ _ _ h => h) (Or.inl ⟨?wG48, ?yG48⟩) (by assumption) ?rG48
      case hiG48 => (simp only [List.getElem?_toArray, List.getElem?_cons_succ, List.getElem?_cons_zero]; try rfl)
      case wG48 => rfl
      case yG48 => (intro w hSw; (try dsimp only at hSw); go_simp; (try with_reducible rfl))
      (try simp only [Act.put, List.setIfInBounds_toArray, List.set_cons_zero, List.set_cons_succ])
      refine wpAnyH_take (i := 49) (oi := ?oG49) (v := ?vG49) ?hiG49 (by kernel_rfl) (by kernel_rfl) (by kernel_rfl) (fun _ _ _ h => h) (Or.inl ⟨?wG49, ?yG49⟩) (by assumption) ?rG49
      case hiG49 => (simp only [List.getElem?_toArray, List.getElem?_cons_succ, List.getElem?_cons_zero]; try rfl)
      case wG49 => rfl
      case yG49 => (intro w hSw; (try dsimp only at hSw); go_simp; (try with_reducible rfl))
      (try simp only [Act.put, List.setIfInBounds_toArray, List.set_cons_zero, List.set_cons_succ])
      refine wpAnyH_take (i := 50) (oi := ?oG50) (v := ?vG50) ?hiG50 (by kernel_rfl) (by kernel_rfl) (by kernel_rfl) (fun _ _ _ h => h) (Or.inl ⟨?wG50, ?yG50⟩) (by assumption) ?rG50
      case hiG50 => (simp only [List.getElem?_toArray, List.getElem?_cons_succ, List.getElem?_cons_zero]; try rfl)
      case wG50 => rfl
      case yG50 => (intro w hSw; (try dsimp only at hSw); go_simp; (try with_reducible rfl))
      (try simp only [Act.put, List.setIfInBounds_toArray, List.set_cons_zero, List.set_cons_succ])
      refine wpAnyH_take (i := 51) (oi := ?oG51) (v := ?vG51) ?hiG51 (by kernel_rfl) (by kernel_rfl) (by kernel_rfl) (fun _ _ _ h => h) (Or.inl ⟨?wG51, ?yG51⟩) (by assumption) ?rG51
      case hiG51 => (simp only [List.getElem?_toArray, List.getElem?_cons_succ, List.getElem?_cons_zero]; try rfl)
      case wG51 => rfl
      case yG51 => (intro w hSw; (try dsimp only at hSw); go_simp; (try with_reducible rfl))
      (try simp only [Act.put, List.setIfInBounds_toArray, List.set_cons_zero, List.set_cons_succ])
      refine wpAnyH_ready (rs := [52]) (by kernel_rfl) (by simp) ?_
      refine AllReadyH.cons (o := ?oG52) ?hiG52 (fun K hK => ?_) AllReadyH.nil
      case hiG52 => (simp only [List.getElem?_toArray, List.getElem?_cons_succ, List.getElem?_cons_zero]; try rfl)
      go_simp
      (go_at_call 19; refine (HB.out _).mono ?_; rintro e w3 ⟨v3, rfl, hv3, hk3, _⟩; have K3 : Hid (Keep NoF w2 w3) := Lib.hid hk3.of_drew; obtain ⟨g3, cp3, rfl, hsl3, _, _⟩ := own_at hv3 HWL.out (by decide); have hc3 := conv_at hsl3 HWL.out; clear hv3 hk3 hsl3)
      go_wp2_with fail
      refine hK.out _ _ (And.intro (HCE.out _ K3.out) (HCB.out _ ((K2.out.trans' K3.out).block B HLB.out.1 (fun f => f)))) (fun hHeld => ?_)
      clear hK K
      (try simp only [Act.put, List.setIfInBounds_toArray, List.set_cons_zero, List.set_cons_succ])
      refine wpAnyH_ready (rs := [53]) (by kernel_rfl) (by simp) ?_
      refine AllReadyH.cons (o := ?oG53) ?hiG53 (fun K hK => ?_) AllReadyH.nil
      case hiG53 => (simp only [List.getElem?_toArray, List.getElem?_cons_succ, List.getElem?_cons_zero]; try rfl)
      go_simp
      refine hK.out _ _ (And.intro (HCE.out _ K3.out) (HCB.out _ ((K2.out.trans' K3.out).block B HLB.out.1 (fun f => f)))) (fun hHeld => ?_)
      clear hK K
      (try simp only [Act.put, List.setIfInBounds_toArray, List.set_cons_zero, List.set_cons_succ])
      refine wpAnyH_take (i := 54) (oi := ?oG54) (v := ?vG54) ?hiG54 (by kernel_rfl) (by kernel_rfl) (by kernel_rfl) (fun _ _ _ h => h) (Or.inl ⟨?wG54, ?yG54⟩) (by assumption) ?rG54
      case hiG54 => (simp only [List.getElem?_toArray, List.getElem?_cons_succ, List.getElem?_cons_zero]; try rfl)
      case wG54 => rfl
      case yG54 => (intro w hSw; (try dsimp only at hSw); go_simp; (try with_reducible rfl))
      (try simp only [Act.put, List.setIfInBounds_toArray, List.set_cons_zero, List.set_cons_succ])
      refine wpAnyH_take (i := 55) (oi := ?oG55) (v := ?vG55) ?hiG55 (by kernel_rfl) (by kernel_rfl) (by kernel_rfl) (fun _ _ _ h => h) (Or.inl ⟨?wG55, ?yG55⟩) (by assumption) ?rG55
      case hiG55 => (simp only [List.getElem?_toArray, List.getElem?_cons_succ, List.getElem?_cons_zero]; try rfl)
      case wG55 => rfl
      case yG55 => (intro w hSw; (try dsimp only at hSw); go_simp; (try with_reducible rfl))
      (try simp only [Act.put, List.setIfInBounds_toArray, List.set_cons_zero, List.set_cons_succ])
      refine wpAnyH_take (i := 56) (oi := ?oG56) (v := ?vG56) ?hiG56 (by kernel_rfl) (by kernel_rfl) (by kernel_rfl) (fun _ _ _ h => h) (Or.inl ⟨?wG56, ?yG56⟩) (by assumption) ?rG56
      case hiG56 => (simp only [List.getElem?_toArray, List.getElem?_cons_succ, List.getElem?_cons_zero]; try rfl)
      case wG56 => rfl
      case yG56 => (intro w hSw; (try dsimp only at hSw); go_simp; (try with_reducible rfl))
      (try simp only [Act.put, List.setIfInBounds_toArray, List.set_cons_zero, List.set_cons_succ])
      refine wpAnyH_done (by kernel_rfl) ?_ _
      refine NoPanic.normal ?_
      go_wp2_with fail
      go_ret
      exact ⟨rfl, HKB.out.trans' (K2.out.trans' K3.out)⟩

set_option linter.unusedVariables false
set_option maxRecDepth 100000 in
theorem lifted (os : Os) (started : os.Started) (H : Type) (enc : TypeId × Value → H) :
    ReturnsInHanded {} Tryz.checked os 9 .any (Rows.wireFormSpec.pre6 enc Tryz.prog Tryz.f9 Rows.wireFormRow.domain false) (Rows.wireFormSpec.post enc Tryz.prog Tryz.f9 false true false false) := by
  refine returnsInHanded_of_change (C := Tryz.checked) own started (by kernel_rfl) Tryz.func9
    (ChangeSpec.witness6 (enc := enc) (C := Tryz.checked) false ⟨#[], #[.agg #[.int .i64 0, .int .i64 0, .int .i64 0, .int .i64 0, .int .i64 0, .bool false]], []⟩ 8 (by kernel_rfl) (by kernel_rfl) (by kernel_rfl) (by kernel_rfl)) ?_
  intro W base args ds gs before hval0 hW hcnd _
  have hval : ∀ (j : Nat) t v, Tryz.f9.params[j]? = some t → args[j]? = some v → Value.okWide Tryz.prog W .any base t v := hval0
  have hW' := hW
  obtain ⟨p, q, hA0, hV, rfl, hfz, hnd⟩ := hW
  have hA : DataW.TrodAll enc Tryz.prog W 0 (fun _ => true) true Tryz.f9.params.toList args.toList ds p := hA0
  rw [Tryz.params9] at hA hval
  obtain ⟨v0, vs0, d0, ds0, p0, q0, hargs, rfl, rfl, h0, r0⟩ := trodAll_cons hA
  obtain ⟨rfl, rfl, rfl⟩ := trodAll_nil r0
  obtain rfl : args = #[v0] := by cases args; simp_all
  obtain ⟨rfl, rfl⟩ := trodVars_none hV
  have k0 := h0
  have lt0 : ∀ x ∈ p0, x.block < W.heap.size := by obtain ⟨m, hm⟩ := k0; exact DataW.trod_lt m _ _ _ hm
  obtain ⟨z0, rfl, w0⟩ := open_arg0 W base (hval 0 23 v0 rfl rfl) h0
  clear hA0 hval0
  refine (walk W z0 w0).mono fun e W' ⟨he, hk⟩ => ?_
  subst he
  have bel := Keep.below hk
  exact ⟨_, rfl, _, _, _, [], _, [], hW', trodAll_mk1 (shut_bool Tryz.underlying4 _), (trodAll_cons_mk (Below.trod laidOut (by kernel_rfl) (of_decide_eq_true (by kernel_rfl)) k0 bel lt0) trodAll_mk0), rfl, bel.frame _, fun h => by cases h⟩

theorem over : Rows.wireFormRow.holds Tryz.pinned (OpenSpec.ofChange Rows.wireFormSpec) :=
  OpenClaim.holds_of_wide 9 Tryz.f9 rfl rfl rfl rfl rfl rfl rfl ⟨rfl, rfl, rfl, rfl, rfl⟩ rfl rfl rfl rfl rfl (by kernel_rfl) Tryz.func9 (by kernel_rfl)
    (of_decide_eq_true (by kernel_rfl)) (by unfold Func.isWrapper; rw [if_neg (of_decide_eq_false (by kernel_rfl))]; exact ⟨rfl, rfl⟩)
    (fun os started H enc _ => lifted os started H enc)

/-- The statement. -/
theorem proved : Rows.WireFormSaid := over
#print axioms proved
end Go.Proofs.YtlabhbjampkhpaaGreat.wireForm
