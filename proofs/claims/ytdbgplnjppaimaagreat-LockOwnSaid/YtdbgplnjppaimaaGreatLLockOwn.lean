/- LockOwn: the law returns true and changes nothing that was there. No conditions. -/
import Derived.Test.YtdbgplnjppaimaaGreatLaw13r
import Derived.Test.YtdbgplnjppaimaaGreatRows
import Derived.WalkKit
import Derived.ProofKit
import Derived.OpenShut
import Derived.ShutString
import Derived.ChangeOld
import Derived.Below
namespace Go.Proofs.YtdbgplnjppaimaaGreat.lockOwn
open Go Go.ChangeShapes Go.WideShapes Go.ChangeAt Go.RowKit
open Go.ChangeMaps (open_string shut_string)

theorem own : ownKnob Tryz.prog.godebug = none := by kernel_rfl
theorem laidOut : laidOutB Tryz.prog = true := by kernel_rfl

open Go.Proofs Go.RowKit Go.Maps Go.Sort Go.Shelf
def bL (i : Nat) : ByteArray := bstr [UInt8.ofNat (97 + i)]
def msgs (i : Nat) : List PutV := (List.range i).map fun j => ⟨⟨#[113]⟩, bL j⟩
theorem msgs_len (i : Nat) : (msgs i).length = i := by simp [msgs]
theorem msgs_succ (i : Nat) : msgs i ++ [⟨⟨#[113]⟩, bL i⟩] = msgs (i + 1) := by unfold msgs; rw [List.range_succ, List.map_append]; rfl
theorem msgs_get (i j : Nat) (h : j < (msgs i).length) : (msgs i)[j] = ⟨⟨#[113]⟩, bL j⟩ := by simp [msgs]
theorem u8_nat (i : Nat) (hi : i < 10) : ((UInt8.ofNat (97 + i)).toNat : Int) = 97 + i := by simp [UInt8.toNat_ofNat']; omega
theorem conv_bL (i : Nat) (hi : i < 10) (W : World) : (convert 26 9 (.slice (some ⟨W.heap.size, 0, none⟩) 1 1)).run Tryz.prog (W.alloc (.cells #[.int .u8 (97 + (i : Int))] 5)) = .ok (.string (bL i)) (W.alloc (.cells #[.int .u8 (97 + (i : Int))] 5)) := by
  have h := run_convert_SlB (P := Tryz.prog) (SlB.new W [UInt8.ofNat (97 + i)] 5 (0, 0) (by unfold maxLen; simp)) (src := 26) (dst := 9) Tryz.underlying26 Tryz.underlying5 Tryz.underlying9
  rw [show (bvs [UInt8.ofNat (97 + i)]).toArray = #[Value.int .u8 (97 + (i : Int))] by simp only [bvs, List.map_cons, List.map_nil, bval, u8_nat i hi]] at h
  exact h
theorem conv_bLd (i : Nat) (hi : i < 10) (W : World) : (convert 26 9 (.slice (some ⟨W.heap.size, 0, none⟩) 1 1)).run Tryz.prog (W.alloc (.cells #[.int .u8 (97 + (i : Int))] 5)).drew = .ok (.string (bL i)) (W.alloc (.cells #[.int .u8 (97 + (i : Int))] 5)).drew := by
  have h0 := (SlB.new W [UInt8.ofNat (97 + i)] 5 (0, 0) (by unfold maxLen; simp)).keep ((Keep.refl NoF (W.alloc (.cells (bvs [UInt8.ofNat (97 + i)]).toArray 5))).drew) (fun _ _ f => f)
  have h := run_convert_SlB (P := Tryz.prog) h0 (src := 26) (dst := 9) Tryz.underlying26 Tryz.underlying5 Tryz.underlying9
  rw [show (bvs [UInt8.ofNat (97 + i)]).toArray = #[Value.int .u8 (97 + (i : Int))] by simp only [bvs, List.map_cons, List.map_nil, bval, u8_nat i hi]] at h
  exact h
/-- A block that can be written to. -/
def Blk (W : World) (g m : Nat) : Prop := ∃ vs, W.heap[g]? = some (.cells vs 28 (0, 0)) ∧ m ≤ vs.size
theorem Blk.cell {W : World} {g m i : Nat} (h : Blk W g m) (hi : i < m) : (∃ v, W.cell? ⟨g, i, none⟩ = some v) ∧ W.frozen? ⟨g, i, none⟩ = false := by
  obtain ⟨vs, h1, h2⟩ := h
  have h3 := cell_of_heap h1 i
  refine ⟨⟨vs[i]'(by omega), by rw [h3]; simp [show i < vs.size by omega]⟩, free_of_heap h1 i⟩
theorem Blk.set {W : World} {g g' m i : Nat} (h : Blk W g m) (v : Value) : Blk (W.setCell ⟨g', i, none⟩ v) g m := by
  obtain ⟨vs, h1, h2⟩ := h
  by_cases e : g' = g
  · subst e
    exact ⟨vs.setIfInBounds i v, by simp [World.setCell, Array.getElem?_modify, h1], by simpa using h2⟩
  · exact ⟨vs, by simp [World.setCell, Array.getElem?_modify, e, h1], h2⟩
theorem blk_of {B n : Nat} {w : World} {v : Value} {l : List PutV} (h : RowT B w v l) (hl : l.length = n) (hn : 0 < n) : ∃ g cp, v = .slice (some ⟨g, 0, none⟩) n cp ∧ B ≤ g ∧ Blk w g (n * 2) := by
  subst hl
  obtain ⟨ao, cp, rfl, ⟨_, h2⟩, h3⟩ := h
  rcases h2 with ⟨_, e⟩ | ⟨g, cap, cur, e, _, hg, hn2, hc, hcs, htk⟩
  · omega
  · injection e with e1 e2 e3
    subst e1
    exact ⟨g, cp, rfl, h3 g rfl, cur, hg, by rw [hcs]; exact Nat.mul_le_mul_right _ hn2⟩
theorem own_n {w : World} {ao : Option Addr} {n cp : Nat} {l : List PutV} (hl : l.length = n) (h : OwnP w (.slice ao n cp) l) : w.ownsRow 0 28 2 (.slice ao n cp) n (l.flatMap pC) := by
  subst hl; exact h
theorem cnUp3 {cn : Int → Int} {i : Nat} (h : ∀ y, cn y = if y = 3 then (i : Int) else 0) : ∀ y, cnUp cn 3 y = if y = 3 then ((i + 1 : Nat) : Int) else 0 := fun y => by
  unfold cnUp
  by_cases e : y = 3
  · rw [if_pos e, if_pos e, h, if_pos rfl]; omega
  · rw [if_neg e, if_neg e, h, if_neg e]
def kOf (n : Nat) : List Int := if n = 0 then [] else [3]
theorem kOf_mem {cn : Int → Int} {n : Nat} (h : ∀ y, cn y = if y = 3 then (n : Int) else 0) : ∀ y, y ∈ kOf n ↔ 1 ≤ cn y := fun y => by
  rw [h]
  unfold kOf
  by_cases h0 : n = 0
  · subst h0; rw [if_pos rfl]; by_cases e : y = 3 <;> simp [e]
  · rw [if_neg h0]
    by_cases e : y = 3
    · simp [e]; omega
    · simp [e]
theorem kOf_rise (n : Nat) : (kOf n).Pairwise (· < ·) := by unfold kOf; split <;> simp
theorem kOf_len (n : Nat) : (kOf n).length ≤ 1 := by unfold kOf; split <;> simp
theorem kOf_all {ps : Int → List PutV} {n : Nat} (h : ps 3 = msgs n) : ((kOf n).flatMap ps).length = n := by
  unfold kOf
  by_cases h0 : n = 0
  · rw [if_pos h0]; simp [h0]
  · rw [if_neg h0]; simp [h, msgs_len]
/-- The two rows that the law writes into, of the call's own. -/
def XY (w W : World) (F : Nat → Prop) (n : Nat) (ax ay : Option Addr) : Prop := ∀ j : Nat, j < n → ∃ gx gy, ax = some ⟨gx, 0, none⟩ ∧ ay = some ⟨gy, 0, none⟩ ∧ (w.heap.size ≤ gx ∧ w.heap.size ≤ gy) ∧ (¬ F gx ∧ ¬ F gy) ∧ Blk W gx (n * 2) ∧ Blk W gy (n * 2)
set_option maxHeartbeats 16000000 in
set_option maxRecDepth 8000 in
theorem walk (w : World) (n0 : Int) (hn0 : (Lit.int .i64 n0).wf = true) :
    Calls Tryz.prog 3 #[.int .i64 n0] w fun e w' => e = .returned (.bool true) ∧ Keep NoF w w' := by
  have hb := bounds_i64 hn0
  clear hn0
  have hk3 : KI 3 := ki_small (by omega)
  go_enter Tryz.func3, Tryz.ntmps3
  go_wp2_with fail
  refine (begun13_any w).mono ?_
  rintro e w1 ⟨rfl, hk⟩
  have K1 := Lib.hid hk
  clear hk
  go_wp2_with fail
  refine (newLock_any w1).mono ?_
  rintro e w2 hN
  obtain ⟨p, rfl, hS⟩ := lst_new K1.out hN
  have S2 := Lib.hid hS
  clear hN hS
  have ht1 := Int.tmod_lt_of_pos n0 (b := 10) (by omega)
  have ht2 : -10 < n0.tmod 10 := by
    rcases Int.le_total 0 n0 with h | h
    · have := Int.tmod_nonneg 10 h; omega
    · have h3 := Int.tmod_lt_of_pos (-n0) (b := 10) (by omega)
      rw [Int.neg_tmod] at h3; omega
  obtain ⟨t, ht⟩ : ∃ t, n0.tmod 10 = t := ⟨_, rfl⟩
  rw [ht] at ht1 ht2
  have hw0 : wrap64 (t + 10) = t + 10 := by unfold wrap64; omega
  obtain ⟨n, hn, hn10⟩ : ∃ n : Nat, (t + 10).tmod 10 = n ∧ n < 10 := by
    have h1 := Int.tmod_nonneg 10 (show 0 ≤ t + 10 by omega)
    have h2 := Int.tmod_lt_of_pos (t + 10) (b := 10) (by omega)
    exact ⟨((t + 10).tmod 10).toNat, by omega, by omega⟩
  go_upto_region 6 with fail
  (try rw [ht]); (try rw [hw0]); (try rw [hn])
  clear ht ht1 ht2 hw0 hn hb
  go_wp2_with fail
  go_loopw [5] (fun iv wr => ∃ (i nb : Nat) (cn : Int → Int) (ps : Int → List PutV) (ag : Int → Int), i ≤ n ∧ nb ≤ i ∧ iv = .int .i64 i ∧ LSt w wr p nb cn ps ag ∧ (∀ y, cn y = if y = 3 then (i : Int) else 0) ∧ ps 3 = msgs i) (fun iv _ => n - (intOf iv).toNat)
  case atStart => exact ⟨0, 0, _, _, _, Nat.zero_le _, Nat.le_refl _, rfl, S2.out, fun y => by split <;> rfl, rfl⟩
  case round =>
    obtain ⟨i, nb, cn, ps, ag, hi, hnb, rfl, hS, hc, hp⟩ := hrel
    have HS := Lib.hid hS; have HC := Lib.hid hc; have HP := Lib.hid hp
    clear hS hc hp
    by_cases hlt : i < n
    · have hlt2 : (i : Int) < n := by omega
      have hlt3 : decide (i < n) = true := by simp [hlt]
      have hu8 : IntKind.u8.wrap (97 + (i : Int)) = 97 + (i : Int) := by show (97 + (i : Int)) % 256 = _; omega
      have h97 : IntKind.i64.wrap (97 + (i : Int)) = 97 + (i : Int) := IntWalk.i64_in _ (by omega)
      have hcv := conv_bL i (by omega) wr
      have HSA := Lib.hid (HS.out.keepN ((Keep.refl NoF wr).alloc (.cells #[.int .u8 (97 + (i : Int))] 5 (0, 0))))
      go_wp2_with fail
      refine (lst_put HSA.out 3 hk3 (by rw [HC.out, if_pos rfl]; omega) (by omega) ⟨⟨#[113]⟩, bL i⟩).mono ?_
      rintro e w3 ⟨rfl, h3⟩
      have S3 := Lib.hid h3
      have hp3 : psUp ps 3 ⟨⟨#[113]⟩, bL i⟩ 3 = msgs (i + 1) := by unfold psUp; rw [if_pos rfl, HP.out, msgs_succ]
      have HP3 := Lib.hid hp3
      clear h3 hp3
      go_wp2_with fail
      go_roundw
      case rel => exact ⟨i + 1, nb + 1, _, _, _, by omega, by omega, by go_num, S3.out, cnUp3 HC.out, HP3.out⟩
      case measure => simp [intOf]; omega
    · have hlt2 : ¬ (i : Int) < n := by omega
      have hlt3 : decide (i < n) = false := by simp [hlt]
      obtain rfl : i = n := by omega
      obtain ⟨F, hL, hF, hkp⟩ := HS.out
      have L0 := Lib.hid hL; have HF := Lib.hid hF; have K0 := Lib.hid hkp
      clear hL hF hkp HS hlt hlt2
      go_wp2_with fail
      refine (puts_any L0.out 3 hk3).mono ?_
      rintro e w3 ⟨xv, rfl, hx, k3⟩
      rw [HP.out] at hx
      have X3 := Lib.hid hx; have L3 := Lib.hid (L0.out.keep k3 (fun _ _ f => f)); have K3 := Lib.hid (K0.out.trans' k3)
      have KX := Lib.hid k3
      obtain ⟨ax, cx, rfl, _, _⟩ := hx
      rw [msgs_len] at X3 ⊢
      clear k3
      go_wp2_with fail
      refine (lall_any L3.out (kOf_rise i) (kOf_mem HC.out) (by omega) (by intro y hy; unfold kOf at hy; split at hy; simp at hy; rw [List.mem_singleton] at hy; rw [hy]; exact hk3) (by have := kOf_len i; omega)).mono ?_
      rintro e w4 ⟨yv, rfl, hy, k4⟩
      have Y4 := Lib.hid hy; have L4 := Lib.hid (L3.out.keep k4 (fun _ _ f => f)); have K4 := Lib.hid (K3.out.trans' k4)
      have KY := Lib.hid k4
      obtain ⟨ay, cy, rfl, _, _⟩ := hy
      rw [kOf_all HP.out] at Y4 ⊢
      have HXY : Hid (XY w w4 F i ax ay) := by
        refine Lib.hid fun j hj => ?_
        obtain ⟨gx, cx', ex, hx1, hx2⟩ := blk_of X3.out (msgs_len i) (by omega)
        obtain ⟨gy, cy', ey, hy1, hy2⟩ := blk_of Y4.out (kOf_all HP.out) (by omega)
        cases ex; cases ey
        have s0 := K0.out.size
        have s3 := K3.out.size
        refine ⟨gx, gy, rfl, rfl, ⟨by omega, by omega⟩, ⟨fun f => by have := L0.out.lt gx f; omega, fun f => by have := L3.out.lt gy f; omega⟩, ?_, hy2⟩
        obtain ⟨vs, h1, h2⟩ := hx2
        exact ⟨vs, by rw [KY.out.block gx (lt_of_heap h1) (fun f => f)]; exact h1, h2⟩
      clear k4 X3 Y4 L3 K3 KX KY L0 K0
      go_wp2_with fail
      go_loopw [39] (fun jv wr => ∃ (j : Nat), j ≤ i ∧ jv = .int .i64 j ∧ LockW wr F p nb cn ps ag ∧ XY w wr F i ax ay ∧ Keep NoF w wr) (fun jv _ => i - (intOf jv).toNat)
      case atStart => exact ⟨0, Nat.zero_le _, rfl, L4.out, HXY.out, K4.out⟩
      case round =>
        obtain ⟨j, hj, rfl, hL, hXY, hkp⟩ := hrel
        have L5 := Lib.hid hL; have K5 := Lib.hid hkp
        have HXY5 := Lib.hid hXY
        clear hL hkp
        by_cases hlt : j < i
        · have hlt2 : (j : Int) < i := by omega
          have hlt3 : decide (j < i) = true := by simp [hlt]
          have hlt4 : decide (i ≤ j) = false := by simp; omega
          obtain ⟨gx, gy, rfl, rfl, ⟨g1, g2⟩, ⟨g3, g4⟩, b1, b2⟩ := hXY j hlt
          obtain ⟨⟨vx, cx1⟩, fx1⟩ := b1.cell (i := j * 2 + 1) (by omega)
          have b3 := b2.set (g' := gx) (i := j * 2 + 1) (.string ⟨#[122]⟩)
          obtain ⟨⟨vy, cy1⟩, fy1⟩ := b3.cell (i := j * 2 + 1) (by omega)
          have hk1 : Keep (fun k => k = gx) wr (wr.setCell ⟨gx, j * 2 + 1, none⟩ (.string ⟨#[122]⟩)) := (Keep.refl (fun k => k = gx) wr).setCell (p := ⟨gx, j * 2 + 1, none⟩) (fun _ => rfl) _
          have hk2 : Keep (fun k => k = gx ∨ k = gy) wr ((wr.setCell ⟨gx, j * 2 + 1, none⟩ (.string ⟨#[122]⟩)).setCell ⟨gy, j * 2 + 1, none⟩ (.string ⟨#[122]⟩)) := (hk1.mono (fun _ _ e => .inl e)).setCell (p := ⟨gy, j * 2 + 1, none⟩) (fun _ => .inr rfl) _
          have L6 := Lib.hid (L5.out.keep hk2 (fun k f e => by rcases e with e | e; exact g3 (e ▸ f); exact g4 (e ▸ f)))
          have K6 : Hid (Keep NoF w ((wr.setCell ⟨gx, j * 2 + 1, none⟩ (.string ⟨#[122]⟩)).setCell ⟨gy, j * 2 + 1, none⟩ (.string ⟨#[122]⟩))) := Lib.hid (K5.out.trans hk2 (fun _ _ f => f) (fun k hk e => by omega))
          have X6 : Hid (XY w ((wr.setCell ⟨gx, j * 2 + 1, none⟩ (.string ⟨#[122]⟩)).setCell ⟨gy, j * 2 + 1, none⟩ (.string ⟨#[122]⟩)) F i (some ⟨gx, 0, none⟩) (some ⟨gy, 0, none⟩)) := Lib.hid fun _ _ => ⟨gx, gy, rfl, rfl, ⟨g1, g2⟩, ⟨g3, g4⟩, (b1.set _).set _, b3.set _⟩
          clear b1 b2 b3 hk1 hk2 hXY g1 g2 g3 g4
          go_wp2_with fail
          go_roundw
          case rel => exact ⟨j + 1, by omega, by go_num, L6.out, X6.out, K6.out⟩
          case measure => simp [intOf]; omega
        · have hlt2 : ¬ (j : Int) < i := by omega
          have hlt3 : decide (j < i) = false := by simp [hlt]
          have hlt4 : decide (i ≤ j) = true := by simp; omega
          clear hXY HXY5
          go_wp2_with fail
          refine (puts_any L5.out 3 hk3).mono ?_
          rintro e w5 ⟨zv, rfl, hz, k5⟩
          rw [HP.out] at hz
          have Z5 := Lib.hid hz; have L6 := Lib.hid (L5.out.keep k5 (fun _ _ f => f)); have K6 := Lib.hid (K5.out.trans' k5)
          obtain ⟨az, cz, rfl, _, _⟩ := hz
          rw [msgs_len] at Z5 ⊢
          clear k5
          go_wp2_with fail
          go_loopw [10] (fun jv wr => ∃ (j : Nat), j ≤ i ∧ jv = .int .i64 j ∧ LockW wr F p nb cn ps ag ∧ OwnP wr (.slice az i cz) (msgs i) ∧ Keep NoF w wr) (fun jv _ => i - (intOf jv).toNat)
          case atStart => exact ⟨0, Nat.zero_le _, rfl, L6.out, by obtain ⟨_, _, _, h, _⟩ := Z5.out; exact h, K6.out⟩
          case round =>
            obtain ⟨j, hj, rfl, hL, hO, hkp⟩ := hrel
            have L7 := Lib.hid hL; have K7 := Lib.hid hkp; have O7 := Lib.hid hO
            clear hL hkp hO
            by_cases hlt : j < i
            · have hlt2 : (j : Int) < i := by omega
              have hlt3 : decide (j < i) = true := by simp [hlt]
              have hlt4 : decide (i ≤ j) = false := by simp; omega
              obtain ⟨gz, rfl, hcz⟩ := rowK_cell pC_len (own_n (msgs_len i) O7.out) (msgs_len i) j (by rw [msgs_len]; exact hlt)
              have cz1 := hcz 1 (.string (bL j)) (by rw [msgs_get]; rfl)
              have hu8 : IntKind.u8.wrap (97 + (j : Int)) = 97 + (j : Int) := by show (97 + (j : Int)) % 256 = _; omega
              have h97 : IntKind.i64.wrap (97 + (j : Int)) = 97 + (j : Int) := IntWalk.i64_in _ (by omega)
              have HCV := Lib.hid (fun W => conv_bL j (by omega) W)
              clear hcz
              go_upto_region 21 with fail
              refine wp_region_noPanic ?_
              refine wp_region_held_drew (S := (fun W : World => W.cell? ⟨gz, j * 2 + 1, none⟩ = some (.string (bL j)))) (by kernel_rfl) (cz1) (fun hHeld => ?_)
              refine wpAnyH_take (i := 0) (oi := ?oO0) (v := ?vO0) ?hiO0 (by kernel_rfl) (by kernel_rfl) (by kernel_rfl) (fun _ _ _ h => h) (Or.inl ⟨?wO0, ?yO0⟩) (by assumption) ?rO0
              case hiO0 => (simp only [List.getElem?_toArray, List.getElem?_cons_zero]; try rfl)
              case wO0 => rfl
              case yO0 => (intro w hSw; (try dsimp only at hSw); go_simp; (try with_reducible rfl))
              (try simp only [Act.put, List.setIfInBounds_toArray, List.set_cons_zero, List.set_cons_succ])
              refine wpAnyH_take (i := 1) (oi := ?oO1) (v := ?vO1) ?hiO1 (by kernel_rfl) (by kernel_rfl) (by kernel_rfl) (fun _ _ _ h => h) (Or.inl ⟨?wO1, ?yO1⟩) (by assumption) ?rO1
              case hiO1 => (simp only [List.getElem?_toArray, List.getElem?_cons_succ, List.getElem?_cons_zero]; try rfl)
              case wO1 => rfl
              case yO1 => (intro w hSw; (try dsimp only at hSw); go_simp; (try with_reducible rfl))
              (try simp only [Act.put, List.setIfInBounds_toArray, List.set_cons_zero, List.set_cons_succ])
              refine wpAnyH_take (i := 2) (oi := ?oO2) (v := ?vO2) ?hiO2 (by kernel_rfl) (by kernel_rfl) (by kernel_rfl) (fun _ _ _ h => h) (Or.inl ⟨?wO2, ?yO2⟩) (by assumption) ?rO2
              case hiO2 => (simp only [List.getElem?_toArray, List.getElem?_cons_succ, List.getElem?_cons_zero]; try rfl)
              case wO2 => rfl
              case yO2 => (intro w hSw; (try dsimp only at hSw); go_simp; (try with_reducible rfl))
              (try simp only [Act.put, List.setIfInBounds_toArray, List.set_cons_zero, List.set_cons_succ])
              refine wpAnyH_take (i := 3) (oi := ?oO3) (v := ?vO3) ?hiO3 (by kernel_rfl) (by kernel_rfl) (by kernel_rfl) (fun _ _ _ h => h) (Or.inl ⟨?wO3, ?yO3⟩) (by assumption) ?rO3
              case hiO3 => (simp only [List.getElem?_toArray, List.getElem?_cons_succ, List.getElem?_cons_zero]; try rfl)
              case wO3 => rfl
              case yO3 => (intro w hSw; (try dsimp only at hSw); go_simp; (try with_reducible rfl))
              (try simp only [Act.put, List.setIfInBounds_toArray, List.set_cons_zero, List.set_cons_succ])
              refine wpAnyH_take (i := 4) (oi := ?oO4) (v := ?vO4) ?hiO4 (by kernel_rfl) (by kernel_rfl) (by kernel_rfl) (fun _ _ _ h => h) (Or.inl ⟨?wO4, ?yO4⟩) (by assumption) ?rO4
              case hiO4 => (simp only [List.getElem?_toArray, List.getElem?_cons_succ, List.getElem?_cons_zero]; try rfl)
              case wO4 => rfl
              case yO4 => (intro w hSw; (try dsimp only at hSw); go_simp; (try with_reducible rfl))
              (try simp only [Act.put, List.setIfInBounds_toArray, List.set_cons_zero, List.set_cons_succ])
              refine wpAnyH_take (i := 5) (oi := ?oO5) (v := ?vO5) ?hiO5 (by kernel_rfl) (by kernel_rfl) (by kernel_rfl) (fun _ _ _ h => h) (Or.inl ⟨?wO5, ?yO5⟩) (by assumption) ?rO5
              case hiO5 => (simp only [List.getElem?_toArray, List.getElem?_cons_succ, List.getElem?_cons_zero]; try rfl)
              case wO5 => rfl
              case yO5 => (intro w hSw; (try dsimp only at hSw); go_simp; (try with_reducible rfl))
              (try simp only [Act.put, List.setIfInBounds_toArray, List.set_cons_zero, List.set_cons_succ])
              refine wpAnyH_take (i := 6) (oi := ?oO6) (v := ?vO6) ?hiO6 (by kernel_rfl) (by kernel_rfl) (by kernel_rfl) (fun _ _ _ h => h) (Or.inl ⟨?wO6, ?yO6⟩) (by assumption) ?rO6
              case hiO6 => (simp only [List.getElem?_toArray, List.getElem?_cons_succ, List.getElem?_cons_zero]; try rfl)
              case wO6 => rfl
              case yO6 => (intro w hSw; (try dsimp only at hSw); go_simp; (try with_reducible rfl))
              (try simp only [Act.put, List.setIfInBounds_toArray, List.set_cons_zero, List.set_cons_succ])
              refine wpAnyH_take (i := 7) (oi := ?oO7) (v := ?vO7) ?hiO7 (by kernel_rfl) (by kernel_rfl) (by kernel_rfl) (fun _ _ _ h => h) (Or.inl ⟨?wO7, ?yO7⟩) (by assumption) ?rO7
              case hiO7 => (simp only [List.getElem?_toArray, List.getElem?_cons_succ, List.getElem?_cons_zero]; try rfl)
              case wO7 => rfl
              case yO7 => (intro w hSw; (try dsimp only at hSw); go_simp; (try with_reducible rfl))
              (try simp only [Act.put, List.setIfInBounds_toArray, List.set_cons_zero, List.set_cons_succ])
              refine wpAnyH_ready (rs := [8]) (by kernel_rfl) (by simp) ?_
              refine AllReadyH.cons (o := ?oO8) ?hiO8 (fun K hK => ?_) AllReadyH.nil
              case hiO8 => (simp only [List.getElem?_toArray, List.getElem?_cons_succ, List.getElem?_cons_zero]; try rfl)
              go_simp
              refine hK.out _ _ (((Keep.refl NoF wr).alloc _).drew.cell' cz1 (fun f => f)) (fun hHeld => ?_)
              clear hK K
              (try simp only [Act.put, List.setIfInBounds_toArray, List.set_cons_zero, List.set_cons_succ])
              refine wpAnyH_ready (rs := [9]) (by kernel_rfl) (by simp) ?_
              refine AllReadyH.cons (o := ?oO9) ?hiO9 (fun K hK => ?_) AllReadyH.nil
              case hiO9 => (simp only [List.getElem?_toArray, List.getElem?_cons_succ, List.getElem?_cons_zero]; try rfl)
              have hcd := conv_bLd j (by omega) wr
              go_simp
              refine hK.out _ _ (((Keep.refl NoF wr).alloc _).drew.cell' cz1 (fun f => f)) (fun hHeld => ?_)
              clear hK K
              (try simp only [Act.put, List.setIfInBounds_toArray, List.set_cons_zero, List.set_cons_succ])
              refine wpAnyH_take (i := 10) (oi := ?oO10) (v := ?vO10) ?hiO10 (by kernel_rfl) (by kernel_rfl) (by kernel_rfl) (fun _ _ _ h => h) (Or.inl ⟨?wO10, ?yO10⟩) (by assumption) ?rO10
              case hiO10 => (simp only [List.getElem?_toArray, List.getElem?_cons_succ, List.getElem?_cons_zero]; try rfl)
              case wO10 => rfl
              case yO10 => (intro w hSw; (try dsimp only at hSw); go_simp; (try with_reducible rfl))
              (try simp only [Act.put, List.setIfInBounds_toArray, List.set_cons_zero, List.set_cons_succ])
              refine wpAnyH_done (by kernel_rfl) ?_ _
              refine NoPanic.normal ?_
              have L8 := Lib.hid (L7.out.keep ((Keep.refl NoF wr).alloc (.cells #[.int .u8 (97 + (j : Int))] 5 (0, 0))).drew (fun _ _ f => f))
              have K8 := Lib.hid (K7.out.trans' ((Keep.refl NoF wr).alloc (.cells #[.int .u8 (97 + (j : Int))] 5 (0, 0))).drew)
              have O8 := Lib.hid (O7.out.keep ((Keep.refl NoF wr).alloc (.cells #[.int .u8 (97 + (j : Int))] 5 (0, 0))).drew (fun _ _ f => f))
              go_wp2_with fail
              go_roundw
              case rel => exact ⟨j + 1, by omega, by go_num, L8.out, O8.out, K8.out⟩
              case measure => simp [intOf]; omega
            · have hlt2 : ¬ (j : Int) < i := by omega
              have hlt3 : decide (j < i) = false := by simp [hlt]
              have hlt4 : decide (i ≤ j) = true := by simp; omega
              have hc3 : cn 3 = i := by rw [HC.out, if_pos rfl]
              go_wp2_with fail
              refine (lockN L7.out 3 hk3).mono ?_
              rintro e w' ⟨rfl, hw⟩
              obtain rfl : wr = w' := hw.symm
              rw [hc3]
              go_wp2_with fail
              go_ret
              exact ⟨rfl, K7.out⟩

set_option linter.unusedVariables false
set_option maxRecDepth 100000 in
theorem lifted (os : Os) (started : os.Started) (H : Type) (enc : TypeId × Value → H) :
    ReturnsInHanded {} Tryz.checked os 3 .any (Rows.lockOwnSpec.pre6 enc Tryz.prog Tryz.f3 Rows.lockOwnRow.domain false) (Rows.lockOwnSpec.post enc Tryz.prog Tryz.f3 false true false false) := by
  refine returnsInHanded_of_change (C := Tryz.checked) own started (by kernel_rfl) Tryz.func3
    (ChangeSpec.witness6 (enc := enc) (C := Tryz.checked) false ⟨#[], #[.int .i64 0], []⟩ 8 (by kernel_rfl) (by kernel_rfl) (by kernel_rfl) (by kernel_rfl)) ?_
  intro W base args ds gs before hval0 hW hcnd _
  have hval : ∀ (j : Nat) t v, Tryz.f3.params[j]? = some t → args[j]? = some v → Value.okWide Tryz.prog W .any base t v := hval0
  have hW' := hW
  obtain ⟨p, q, hA0, hV, rfl, hfz, hnd⟩ := hW
  have hA : DataW.TrodAll enc Tryz.prog W 0 (fun _ => true) true Tryz.f3.params.toList args.toList ds p := hA0
  rw [Tryz.params3] at hA hval
  obtain ⟨v0, vs0, d0, ds0, p0, q0, hargs, rfl, rfl, h0, r0⟩ := trodAll_cons hA
  obtain ⟨rfl, rfl, rfl⟩ := trodAll_nil r0
  obtain rfl : args = #[v0] := by cases args; simp_all
  obtain ⟨rfl, rfl⟩ := trodVars_none hV
  obtain ⟨a0, rfl, rfl, rfl, w0⟩ := open_int Tryz.underlying3 (hval 0 3 v0 rfl rfl) h0
  clear hA0 hval0
  refine (walk W a0 w0).mono fun e W' ⟨he, hk⟩ => ?_
  subst he
  have bel := Keep.below hk
  exact ⟨_, rfl, _, _, _, [], _, [], hW', trodAll_mk1 (shut_bool Tryz.underlying4 _), (trodAll_cons_mk (shut_int Tryz.underlying3 w0) trodAll_mk0), rfl, bel.frame _, fun h => by cases h⟩

theorem over : Rows.lockOwnRow.holds Tryz.pinned (OpenSpec.ofChange Rows.lockOwnSpec) :=
  OpenClaim.holds_of_wide 3 Tryz.f3 rfl rfl rfl rfl rfl rfl rfl ⟨rfl, rfl, rfl, rfl, rfl⟩ rfl rfl rfl rfl rfl (by kernel_rfl) Tryz.func3 (by kernel_rfl)
    (of_decide_eq_true (by kernel_rfl)) (by unfold Func.isWrapper; rw [if_neg (of_decide_eq_false (by kernel_rfl))]; exact ⟨rfl, rfl⟩)
    (fun os started H enc _ => lifted os started H enc)

/-- The statement. -/
theorem proved : Rows.LockOwnSaid := over
#print axioms proved
end Go.Proofs.YtdbgplnjppaimaaGreat.lockOwn
