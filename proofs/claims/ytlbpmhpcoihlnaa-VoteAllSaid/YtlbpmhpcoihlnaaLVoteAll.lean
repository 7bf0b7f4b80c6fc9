/- VoteAll: the law returns true and changes nothing that was there. No conditions. -/
import Derived.Test.YtlbpmhpcoihlnaaAll18
import Derived.Deep.CutRange
import Derived.Test.YtlbpmhpcoihlnaaRows
import Derived.WalkKit
import Derived.ProofKit
import Derived.OpenShut
import Derived.ShutString
import Derived.ChangeOld
import Derived.Below
namespace Go.Proofs.Ytlbpmhpcoihlnaa.voteAll
open Go Go.ChangeShapes Go.WideShapes Go.ChangeAt Go.RowKit
open Go.ChangeMaps (open_string shut_string)

theorem own : ownKnob Try.prog.godebug = none := by kernel_rfl
theorem laidOut : laidOutB Try.prog = true := by kernel_rfl

theorem open_arg1 {H : Type} {enc : TypeId × Value → H} {a : Option Addr} {len cap : Nat} {d : DataW H} {p : List MemPlace} (W : World) (_base : Nat)
    (h : DataW.Trod enc Try.prog W 0 (fun _ => true) true 23 (.slice a len cap) d p) : ∃ z, IsOpsW W a len cap z := open_opsW h
theorem infoI64 : (Try.prog.info? 3).map (fun i => (i.zero, i.size, i.bytes)) = some (some (.int .i64 0), 1, 8) := by kernel_rfl
theorem bal_keepF {F : Nat → Prop} {w w' : World} {p by_ bn n : Nat} {ks : List Int} {yes : Int → Bool} {ns : List Int} (h : BalI w p by_ bn n ks yes ns) (hk : Keep F w w') (h1 : ¬ F p) (h2 : ¬ F by_) (h3 : ¬ F bn) : BalI w' p by_ bn n ks yes ns :=
  ⟨by rw [hk.block p (lt_of_heap h.row) h1]; exact h.row, h.ym.keep hk h2, h.nm.keep hk h3, h.ne⟩
theorem take_lt {l : List Int} {k : Nat} (hk : k < l.length) {x : Int} (h : ∀ y ∈ l.take k, y < x) (h2 : l[k] < x) : ∀ y ∈ l.take (k + 1), y < x := by
  rw [List.take_succ_eq_append_getElem hk]
  intro y hy
  rcases List.mem_append.1 hy with e | e
  · exact h y e
  · rw [List.mem_singleton] at e; omega
theorem ins_done {V l : List Int} {i k : Nat} {x : Int} (hi : i < V.length) (hx : V[i] = x) (h : l.Pairwise (· < ·)) (hm : ∀ y, y ∈ l ↔ y ∈ V.take i) (h1 : ∀ y ∈ l.take k, y < x) (h2 : ∀ hk : k < l.length, x < l[k]) :
    (insAt l k x).Pairwise (· < ·) ∧ ∀ y, y ∈ insAt l k x ↔ y ∈ V.take (i + 1) := by
  refine ⟨insAt_strict h h1 h2, fun y => ?_⟩
  rw [mem_insAt, hm, List.take_succ_eq_append_getElem hi, List.mem_append, List.mem_singleton, hx, or_comm]
theorem ins_same {V l : List Int} {i : Nat} {x : Int} (hi : i < V.length) (hx : V[i] = x) (hm : ∀ y, y ∈ l ↔ y ∈ V.take i) (hin : x ∈ l) : ∀ y, y ∈ l ↔ y ∈ V.take (i + 1) := fun y => by
  rw [hm, List.take_succ_eq_append_getElem hi, List.mem_append, List.mem_singleton, hx]
  constructor
  · exact .inl
  · rintro (h | rfl)
    · exact h
    · exact (hm _).1 hin
theorem src_some {w : World} {g n c : Nat} {l : List Int} (hl : l.length = n) (h : w.ownsRow 0 3 1 (.slice (some ⟨g, 0, none⟩) n c) n (l.map (.int .i64))) (k : Nat) (hk : k ≤ n) (W : World) (hW : Keep NoF w W) (c1 c2 : Nat) :
    Src Try.prog 1 22 (.slice (some ⟨g, 0, none⟩) k c1) k ((l.take k).map (.int .i64)) W ∧ Src Try.prog 1 22 (.slice (some ⟨g, k, none⟩) (n - k) c2) (n - k) ((l.drop k).map (.int .i64)) W := by
  subst hl
  have hc : ∀ j, j < l.length → W.cell? ⟨g, j, none⟩ = some (.int .i64 (l.getD j 0)) := fun j hj => by
    refine hW.cell' ?_ (fun f => f)
    have := h.cellAt (g := g) j (by omega)
    rw [this, List.getElem?_map, List.getElem?_eq_getElem hj, List.getD_eq_getElem?_getD, List.getElem?_eq_getElem hj]
    rfl
  refine ⟨Src.ofSlice W Try.underlying22 _ _ _ _ (by simp; omega) (fun j u hu => ?_) (fun u hu => by obtain ⟨y, _, rfl⟩ := List.mem_map.1 hu; rfl), Src.ofSlice W Try.underlying22 _ _ _ _ (by simp) (fun j u hu => ?_) (fun u hu => by obtain ⟨y, _, rfl⟩ := List.mem_map.1 hu; rfl)⟩
  · have hj : j < k := by
      rcases Nat.lt_or_ge j k with h | h
      · exact h
      · rw [List.getElem?_eq_none (by simp; omega)] at hu; cases hu
    rw [List.getElem?_map, List.getElem?_take_of_lt hj, List.getElem?_eq_getElem (by omega)] at hu
    simp at hu
    subst hu
    have := hc j (by omega)
    rw [List.getD_eq_getElem?_getD, List.getElem?_eq_getElem (by omega)] at this
    rw [show (Addr.mk g 0 none).add j = ⟨g, j, none⟩ by by_cases h0 : j = 0 <;> simp [Addr.add, h0], this]
    rfl
  · have hj : k + j < l.length := by
      rcases Nat.lt_or_ge (k + j) l.length with h | h
      · exact h
      · rw [List.getElem?_eq_none (by simp; omega)] at hu; cases hu
    rw [List.getElem?_map, List.getElem?_drop, List.getElem?_eq_getElem hj] at hu
    simp at hu
    subst hu
    have := hc (k + j) hj
    rw [List.getD_eq_getElem?_getD, List.getElem?_eq_getElem hj] at this
    rw [show (Addr.mk g k none).add j = ⟨g, k + j, none⟩ by by_cases h0 : j = 0 <;> simp [Addr.add, h0], this]
    rfl
def FV3 (by_ bn gs : Nat) : Nat → Prop := fun k => k = by_ ∨ k = bn ∨ k = gs
def StR (w wR : World) (gs p by_ bn : Nat) (kb R : List Int) (i : Nat) (W : World) : Prop :=
  ∃ yes ns, BalI W p by_ bn (1000 + i) kb yes ns ∧ (∀ x ∈ ns, x ∈ kb) ∧ SD W gs (R.map (stI yes ns)) ∧ Keep NoF w W ∧ Keep (FV3 by_ bn gs) wR W
theorem mk_ints (w : World) (N : Nat) (hN : N ≤ 1000) :
    (Instr.makeSlice 22 (.int .i64 (N : Int)) (.int .i64 (N : Int))).run Try.prog w = .ok (.slice (some ⟨w.heap.size, 0, none⟩) N N) (w.alloc (.cells (Array.replicate N (Value.int .i64 0)) 3 (0, 0))) := by
  obtain ⟨i, hi, hz, hsize, hby⟩ := info_parts infoI64
  have hr := run_makeSlice (P := Try.prog) w 22 3 i (.int .i64 0) Try.underlying22 hi hz .i64 .i64 N N (by omega) (Int.le_refl _) (by rw [hsize]; omega) (by rw [hby]; omega) (by omega)
  rw [hr, hsize]
  simp only [Int.toNat_natCast, Nat.mul_one]
  congr 3
  apply Array.ext'
  have h3 := toList_madeCells_one (Value.int .i64 0) N
  rw [Array.toList_replicate, ← h3]
  rfl
theorem row_block_lt {b s n c : Nat} {w : World} {e : TypeId} {a : Addr} {ao : Option Addr} {xs : List Value} (h : w.ownsRow b e s (.slice ao n c) n xs) (ha : ao = some a) : a.block < w.heap.size := by
  rcases h.2 with ⟨e, _⟩ | ⟨g, cap, cur, e, _, hg, _⟩
  · subst ha; cases e
  · subst ha
    injection e with e1 e2 e3
    injection e1 with e1
    subst e1
    exact lt_of_heap hg
theorem keepR {b n s : Nat} {w w' : World} {e : TypeId} {v : Value} {xs : List Value} (h : w.ownsRow b e s v n xs) (hk : Keep NoF w w') : w'.ownsRow b e s v n xs := by
  rcases h with ⟨h1, h2 | ⟨g, cap, cur, rfl, hb, hg, h4, h5, h6, h7⟩⟩
  · exact ⟨h1, .inl h2⟩
  · exact ⟨h1, .inr ⟨g, cap, cur, rfl, hb, by rw [hk.block g (lt_of_heap hg) (fun f => f)]; exact hg, h4, h5, h6, h7⟩⟩
theorem wp_named {P : Program} {c : Code} {Q : Exit → Act → World → Prop} {a : Act} {wq W : World} (hW : Keep NoF wq W) (h : ∀ W', Keep NoF wq W' → Code.wp P c Q a W') : Code.wp P c Q a W := h W hW
set_option maxHeartbeats 8000000 in
set_option maxRecDepth 4000 in
theorem walk (w : World) (a0 : Option Addr) (len0 cap0 : Nat) (z0 : List Int) (h0 : IsRow .i64 w a0 len0 cap0 z0) (a1 : Option Addr) (len1 cap1 : Nat) (z : Nat → OpW) (hz : IsOpsW w a1 len1 cap1 z) :
    Calls Try.prog 3 #[.slice a0 len0 cap0, .slice a1 len1 cap1] w fun e w' => e = .returned (.bool true) ∧ Keep NoF w w' := by
  obtain ⟨l0, hl0, s0⟩ := h0.sli
  subst hl0
  have c0 := s0.1; have c0m := s0.2.1; have c1 := hz.1; have c1m := hz.2.1
  unfold maxLen at c0m c1m
  obtain ⟨V, hV⟩ : ∃ V, l0.take 12 = V := ⟨_, rfl⟩
  have sV := s0.take 12
  rw [hV] at sV
  obtain ⟨n, hn⟩ : ∃ n, V.length = n := ⟨_, rfl⟩
  have hnn : (12 < l0.length ∧ n = 12) ∨ (l0.length ≤ 12 ∧ n = l0.length) := by rw [← hn, ← hV, List.length_take]; omega
  have hn8 : n ≤ 12 := by omega
  have HZ := Lib.hid hz; have SV := Lib.hid sV; have HN := Lib.hid hn
  clear h0 hz s0 sV hV hn
  go_enter Try.func3, Try.ntmps3
  go_wp2_with fail
  refine (begun18_any w).mono ?_
  rintro e w1 ⟨rfl, hk⟩
  have K1 := Lib.hid hk
  clear hk
  go_upto_region 4 with fail
  go_cut [0] from 20 to 24 (fun v wx => v = .slice a0 n cap0 ∧ wx = w1)
  case first =>
    have hm2 : (min (l0.length : Int) 12) ≤ cap0 := by omega
    have hmin : (min (l0.length : Int) 12).toNat = n := by omega
    have HMIN := Lib.hid hmin
    clear hmin
    go_wp2_with fail
    go_meet
    exact ⟨by rw [HMIN.out], rfl⟩
  case rest =>
    obtain ⟨rfl, hw⟩ := hcut
    have hw2 := hw.symm
    clear hw
    subst hw2
    clear hnn
    go_wp2_with fail
    refine (new_any a0 cap0 V n HN.out w1 (SV.out.keep K1.out (fun _ _ f => f)) (by omega)).mono ?_
    rintro e w2 ⟨p, by_, bn, kb, rfl, hB, hmem, hk, hp, hb, hbn⟩
    have hsz := K1.out.size
    have HB := Lib.hid hB; have HME := Lib.hid hmem; have K2 := Lib.hid (K1.out.trans' hk)
    have HF : Hid (w.heap.size ≤ by_ ∧ w.heap.size ≤ bn) := Lib.hid ⟨by omega, by omega⟩
    have HLT : Hid (p < w2.heap.size ∧ by_ < w2.heap.size ∧ bn < w2.heap.size) := Lib.hid ⟨lt_of_heap hB.row, hB.ym.lt, hB.nm.lt⟩
    clear hB hmem hk hp hb hbn hsz
    go_wp2_with fail
    go_loopw [7, 8] (fun lv iv wr => ∃ (i N : Nat) (l : List Int) (ao : Option Addr) (cp : Nat), i ≤ n ∧ N ≤ i ∧ l.length = N ∧ iv = .int .i64 i ∧ lv = .slice ao N cp ∧ wr.ownsRow 0 3 1 (.slice ao N cp) N (l.map (.int .i64)) ∧ l.Pairwise (· < ·) ∧ (∀ y, y ∈ l ↔ y ∈ V.take i) ∧ Keep NoF w2 wr ∧ (∀ g, (Value.slice ao N cp).ownBlock = some g → w2.heap.size ≤ g)) (fun _ iv _ => n - (intOf iv).toNat)
    case atStart => exact ⟨0, 0, [], none, 0, Nat.zero_le _, Nat.le_refl _, rfl, rfl, rfl, World.ownsRow_nil _ _ _ _, by simp, by simp, Keep.refl _ _, nofun⟩
    case round =>
      obtain ⟨i, N, l, ao, cp, hi, hNi, hl, rfl, rfl, hO, hst, hmm, hk, hnew⟩ := hrel
      have HO := Lib.hid hO; have HST := Lib.hid hst; have HMM := Lib.hid hmm; have HK := Lib.hid hk; have HNEW := Lib.hid hnew; have HL := Lib.hid hl
      clear hst hmm hnew
      by_cases hlt : i < n
      · have hlt2 : (i : Int) < n := by omega
        obtain ⟨g0, o0, rfl, d0⟩ := (SV.out.keep (K2.out.trans' hk) (fun _ _ f => f)).2.2.2 i (by rw [HN.out]; exact hlt)
        obtain ⟨x, hx⟩ : ∃ x, V[i]'(by rw [HN.out]; exact hlt) = x := ⟨_, rfl⟩
        rw [hx] at d0
        have HX := Lib.hid hx
        have hsr : SlI wr ao cp l := row_sliB hl hO (fun y hy => SV.out.2.2.1 y (List.mem_of_mem_take ((HMM.out y).1 hy)))
        have HSR := Lib.hid hsr
        clear hO hk hx hsr hl
        obtain ⟨wA, rfl⟩ : ∃ W, W = wr := ⟨_, rfl⟩
        go_wp2_with fail
        go_loopw [9] (fun kv wq => ∃ k : Nat, k ≤ N ∧ kv = .int .i64 k ∧ (∀ y ∈ l.take k, y < x) ∧ Keep NoF wA wq) (fun kv _ => N - (intOf kv).toNat)
        case atStart => exact ⟨0, Nat.zero_le _, rfl, by simp, Keep.refl _ _⟩
        case round =>
          obtain ⟨k, hk, rfl, htl, hkq⟩ := hrel
          have HTL := Lib.hid htl; have HKQ := Lib.hid hkq
          have dx := hkq.cell' d0 (fun f => f)
          clear htl
          by_cases hkn : k < N
          · have hkn2 : (k : Int) < N := by omega
            obtain ⟨g1, o1, rfl, d1⟩ := (HSR.out.keep hkq (fun _ _ f => f)).2.2.2 k (by rw [HL.out]; exact hkn)
            obtain ⟨y, hy⟩ : ∃ y, l[k]'(by rw [HL.out]; exact hkn) = y := ⟨_, rfl⟩
            rw [hy] at d1
            have HY := Lib.hid hy
            clear hy hkq
            by_cases hyx : y < x
            · have hdec : decide (y < x) = true := by simp [hyx]
              go_wp2_with fail
              go_quiet (fail)
              go_wp2_with fail
              go_roundw
              case rel => exact ⟨k + 1, by omega, by go_num, take_lt (by rw [HL.out]; exact hkn) HTL.out (by rw [HY.out]; exact hyx), HKQ.out.drewN _⟩
              case measure => simp [intOf]; omega
            · have hdec : decide (y < x) = false := by simp [hyx]
              go_wp2_with fail
              go_quiet (fail)
              go_wp2_with fail
              refine wp_named (wq := wA) (by first | exact HKQ.out | exact HKQ.out.drewN _) ?_
              intro wq hz
              have HKQ := Lib.hid hz
              have DX := Lib.hid (hz.cell' d0 (fun f => f))
              have dx := DX.out
              have hkn3 : ((k : Int) == N) = false := by simp; omega
              clear d1
              have d1 := (HSR.out.keep hz (fun _ _ f => f)).2.2.2 k (by rw [HL.out]; exact hkn)
              rw [HY.out] at d1
              obtain ⟨_, _, e, d1⟩ := d1
              injection e with e
              injection e with e1 e2 e3
              subst e1 e2
              clear hz
              by_cases hyx2 : y = x
              · have hne : (y != x) = false := by simp [hyx2]
                have HIN : Hid (x ∈ l) := Lib.hid (by rw [← hyx2, ← HY.out]; exact List.getElem_mem _)
                go_wp2_with fail
                go_quiet (fail)
                go_wp2_with fail
                go_roundw
                case rel => exact ⟨i + 1, N, l, _, cp, by omega, by omega, HL.out, by go_num, rfl, keepR HO.out (HKQ.out.drewN _), HST.out, ins_same (by rw [HN.out]; exact hlt) HX.out HMM.out HIN.out, HK.out.trans' (HKQ.out.drewN _), HNEW.out⟩
                case measure => simp [intOf]; omega
              · have hne : (y != x) = true := by simp [hyx2]
                have INS : Hid ((insAt l k x).Pairwise (· < ·) ∧ ∀ y, y ∈ insAt l k x ↔ y ∈ V.take (i + 1)) := Lib.hid (ins_done (by rw [HN.out]; exact hlt) HX.out HST.out HMM.out HTL.out (fun hk => by have := HY.out; omega))
                go_wp2_with fail
                go_quiet (fail)
                go_wp2_with fail
                refine wp_named (wq := wA) (by first | exact HKQ.out | exact HKQ.out.drewN _) ?_
                intro wq hz
                clear DX HKQ dx
                have HKQ := Lib.hid hz
                have DX := Lib.hid (hz.cell' d0 (fun f => f))
                have K0 := Lib.hid ((Keep.refl NoF wq).drew)
                clear hz
                have ho1 : o1 = 0 := by
                  rcases HO.out.2 with ⟨e, _⟩ | ⟨g, cap, cur, e, _⟩
                  · cases e
                  · injection e with e; injection e with e; injection e with e1 e2 e3
                subst ho1
                have hO2 := src_some HL.out HO.out k (by omega)
                have SRC1 : Hid (∀ W, Keep NoF wq W → Src Try.prog 1 22 (.slice (some ⟨g1, 0, none⟩) k cp) k ((l.take k).map (.int .i64)) W) := Lib.hid fun W hW => (hO2 W (HKQ.out.trans' hW) cp (cp - k)).1
                have SRC2 : Hid (∀ W, Keep NoF wq W → Src Try.prog 1 22 (.slice (some ⟨g1, k, none⟩) (N - k) (cp - k)) (N - k) ((l.drop k).map (.int .i64)) W) := Lib.hid fun W hW => (hO2 W (HKQ.out.trans' hW) cp (cp - k)).2
                clear hO2
                have hcpk : k ≤ cp := by have := HSR.out.1; rw [HL.out] at this; omega
                have hcp2 := HSR.out.2.1
                have hcpne : ¬ cp = k := by have := HSR.out.1; rw [HL.out] at this; omega
                have hNcp : N ≤ cp := by have := HSR.out.1; rw [HL.out] at this; exact this
                unfold maxLen at hcp2
                refine wp_region_noPanic ?_
                refine wp_region_held_drew (S := fun W' : World => W'.cell? ⟨g0, o0 + i, none⟩ = some (.int .i64 x)) (by kernel_rfl) ((K0.out).cell' DX.out (fun f => f)) (fun hHeld => ?_)
                refine wpAnyH_take (i := 0) (oi := ?oA0) (v := ?vA0) ?hiA0 (by kernel_rfl) (by kernel_rfl) (by kernel_rfl) (fun _ _ _ h => h) (Or.inl ⟨?wA0, ?yA0⟩) (by assumption) ?rA0
                case hiA0 => (simp only [List.getElem?_toArray, List.getElem?_cons_zero]; try rfl)
                case wA0 => rfl
                case yA0 => (intro w hSw; (try dsimp only at hSw); go_simp; (try with_reducible rfl))
                (try simp only [Act.put, List.setIfInBounds_toArray, List.set_cons_zero, List.set_cons_succ])
                refine wpAnyH_take (i := 1) (oi := ?oA1) (v := ?vA1) ?hiA1 (by kernel_rfl) (by kernel_rfl) (by kernel_rfl) (fun _ _ _ h => h) (Or.inl ⟨?wA1, ?yA1⟩) (by assumption) ?rA1
                case hiA1 => (simp only [List.getElem?_toArray, List.getElem?_cons_succ, List.getElem?_cons_zero]; try rfl)
                case wA1 => rfl
                case yA1 => (intro w hSw; (try dsimp only at hSw); go_simp; (try with_reducible rfl))
                (try simp only [Act.put, List.setIfInBounds_toArray, List.set_cons_zero, List.set_cons_succ])
                refine wpAnyH_take (i := 2) (oi := ?oA2) (v := ?vA2) ?hiA2 (by kernel_rfl) (by kernel_rfl) (by kernel_rfl) (fun _ _ _ h => h) (Or.inl ⟨?wA2, ?yA2⟩) (by assumption) ?rA2
                case hiA2 => (simp only [List.getElem?_toArray, List.getElem?_cons_succ, List.getElem?_cons_zero]; try rfl)
                case wA2 => rfl
                case yA2 => (intro w hSw; (try dsimp only at hSw); go_simp; (try with_reducible rfl))
                (try simp only [Act.put, List.setIfInBounds_toArray, List.set_cons_zero, List.set_cons_succ])
                refine wpAnyH_take (i := 4) (oi := ?oA4) (v := ?vA4) ?hiA4 (by kernel_rfl) (by kernel_rfl) (by kernel_rfl) (fun _ _ _ h => h) (Or.inl ⟨?wA4, ?yA4⟩) (by assumption) ?rA4
                case hiA4 => (simp only [List.getElem?_toArray, List.getElem?_cons_succ, List.getElem?_cons_zero]; try rfl)
                case wA4 => rfl
                case yA4 => (intro w hSw; (try dsimp only at hSw); go_simp; (try with_reducible rfl))
                (try simp only [Act.put, List.setIfInBounds_toArray, List.set_cons_zero, List.set_cons_succ])
                refine wpAnyH_take (i := 5) (oi := ?oA5) (v := ?vA5) ?hiA5 (by kernel_rfl) (by kernel_rfl) (by kernel_rfl) (fun _ _ _ h => h) (Or.inl ⟨?wA5, ?yA5⟩) (by assumption) ?rA5
                case hiA5 => (simp only [List.getElem?_toArray, List.getElem?_cons_succ, List.getElem?_cons_zero]; try rfl)
                case wA5 => rfl
                case yA5 => (intro w hSw; (try dsimp only at hSw); go_simp; (try with_reducible rfl))
                (try simp only [Act.put, List.setIfInBounds_toArray, List.set_cons_zero, List.set_cons_succ])
                refine wpAnyH_take (i := 6) (oi := ?oA6) (v := ?vA6) ?hiA6 (by kernel_rfl) (by kernel_rfl) (by kernel_rfl) (fun _ _ _ h => h) (Or.inl ⟨?wA6, ?yA6⟩) (by assumption) ?rA6
                case hiA6 => (simp only [List.getElem?_toArray, List.getElem?_cons_succ, List.getElem?_cons_zero]; try rfl)
                case wA6 => rfl
                case yA6 => (intro w hSw; (try dsimp only at hSw); go_simp; (try with_reducible rfl))
                (try simp only [Act.put, List.setIfInBounds_toArray, List.set_cons_zero, List.set_cons_succ])
                refine wpAnyH_take (i := 7) (oi := ?oA7) (v := ?vA7) ?hiA7 (by kernel_rfl) (by kernel_rfl) (by kernel_rfl) (fun _ _ _ h => h) (Or.inl ⟨?wA7, ?yA7⟩) (by assumption) ?rA7
                case hiA7 => (simp only [List.getElem?_toArray, List.getElem?_cons_succ, List.getElem?_cons_zero]; try rfl)
                case wA7 => rfl
                case yA7 => (intro w hSw; (try dsimp only at hSw); go_simp; (try with_reducible rfl))
                (try simp only [Act.put, List.setIfInBounds_toArray, List.set_cons_zero, List.set_cons_succ])
                refine wpAnyH_take (i := 10) (oi := ?oA10) (v := ?vA10) ?hiA10 (by kernel_rfl) (by kernel_rfl) (by kernel_rfl) (fun _ _ _ h => h) (Or.inl ⟨?wA10, ?yA10⟩) (by assumption) ?rA10
                case hiA10 => (simp only [List.getElem?_toArray, List.getElem?_cons_succ, List.getElem?_cons_zero]; try rfl)
                case wA10 => rfl
                case yA10 => (intro w hSw; (try dsimp only at hSw); go_simp; (try with_reducible rfl))
                (try simp only [Act.put, List.setIfInBounds_toArray, List.set_cons_zero, List.set_cons_succ])
                refine wpAnyH_take (i := 11) (oi := ?oA11) (v := ?vA11) ?hiA11 (by kernel_rfl) (by kernel_rfl) (by kernel_rfl) (fun _ _ _ h => h) (Or.inl ⟨?wA11, ?yA11⟩) (by assumption) ?rA11
                case hiA11 => (simp only [List.getElem?_toArray, List.getElem?_cons_succ, List.getElem?_cons_zero]; try rfl)
                case wA11 => rfl
                case yA11 => (intro w hSw; (try dsimp only at hSw); go_simp; (try with_reducible rfl))
                (try simp only [Act.put, List.setIfInBounds_toArray, List.set_cons_zero, List.set_cons_succ])
                refine wpAnyH_take (i := 12) (oi := ?oA12) (v := ?vA12) ?hiA12 (by kernel_rfl) (by kernel_rfl) (by kernel_rfl) (fun _ _ _ h => h) (Or.inl ⟨?wA12, ?yA12⟩) (by assumption) ?rA12
                case hiA12 => (simp only [List.getElem?_toArray, List.getElem?_cons_succ, List.getElem?_cons_zero]; try rfl)
                case wA12 => rfl
                case yA12 => (intro w hSw; (try dsimp only at hSw); go_simp; (try with_reducible rfl))
                (try simp only [Act.put, List.setIfInBounds_toArray, List.set_cons_zero, List.set_cons_succ])
                refine wpAnyH_ready (rs := [3, 8]) (by kernel_rfl) (by simp) ?_
                refine AllReadyH.cons (o := ?oA3) ?hiA3 (fun K hK => ?_) (AllReadyH.cons (o := ?oA8) ?hiA8 (fun K hK => ?_) AllReadyH.nil)
                case hiA3 => (simp only [List.getElem?_toArray, List.getElem?_cons_succ, List.getElem?_cons_zero]; try rfl)
                case hiA8 => (simp only [List.getElem?_toArray, List.getElem?_cons_succ, List.getElem?_cons_zero]; try rfl)
                · refine step_app 22 22 3 (.int .i64 0) 1 8 Try.underlying22 infoI64 rfl (by decide) (by decide) rfl rfl rfl rfl (v := .slice none 0 0) (sv := (.slice (some ⟨g1, 0, none⟩) k cp)) (World.ownsRow_nil _ _ _ _) (SRC1.out _ (K0.out)) (by omega) ?_
                  intro a1 c1 W1 hown1 hgr1 hfr1
                  simp only [Nat.zero_add, List.nil_append] at hown1 hgr1 hfr1 ⊢
                  have kA : Keep NoF wq W1 := (K0.out).grown hgr1 (fun k _ e => by cases e)
                  have fr1 : ∀ b, (Value.slice a1 k c1).ownBlock = some b → wq.heap.size ≤ b := fun b hk => by
                    rcases hfr1 with f | f
                    · rw [f] at hk; cases hk
                    · rw [f] at hk; injection hk with hk; exact Nat.le_trans ((K0.out)).size (Nat.le_of_eq hk)
                  refine hK.out _ _ ((kA).cell' DX.out (fun f => f)) (fun hHeld => ?_)
                  clear hK K
                  (try simp only [Act.put, List.setIfInBounds_toArray, List.set_cons_zero, List.set_cons_succ])
                  refine wpAnyH_ready (rs := [8]) (by kernel_rfl) (by simp) ?_
                  refine AllReadyH.cons (o := ?oAp8) ?hiAp8 (fun K hK => ?_) AllReadyH.nil
                  case hiAp8 => (simp only [List.getElem?_toArray, List.getElem?_cons_succ, List.getElem?_cons_zero]; try rfl)
                  go_simp
                  refine hK.out _ _ ((kA.alloc _).cell' DX.out (fun f => f)) (fun hHeld => ?_)
                  clear hK K
                  (try simp only [Act.put, List.setIfInBounds_toArray, List.set_cons_zero, List.set_cons_succ])
                  have kA2 := kA.alloc (.cells #[.int .i64 x] 3 (0, 0))
                  refine wpAnyH_ready (rs := [9]) (by kernel_rfl) (by simp) ?_
                  refine AllReadyH.cons (o := ?oAp9) ?hiAp9 (fun K hK => ?_) AllReadyH.nil
                  case hiAp9 => (simp only [List.getElem?_toArray, List.getElem?_cons_succ, List.getElem?_cons_zero]; try rfl)
                  refine step_app 22 22 3 (.int .i64 0) 1 8 Try.underlying22 infoI64 rfl (by decide) (by decide) rfl rfl rfl rfl (v := .slice a1 k c1) (hown1.alloc _) (Src.one Try.underlying22 (heap_new W1 _) rfl 1) (by omega) ?_
                  intro a3 c3 W3 hown3 hgr3 hfr3
                  have kB : Keep NoF wq W3 := (kA2).grown hgr3 (fun b hk e => by have := fr1 b e; omega)
                  have fr3 : ∀ b, (Value.slice a3 (k + 1) c3).ownBlock = some b → wq.heap.size ≤ b := fun b hk => by
                    rcases hfr3 with f | f
                    · rw [f] at hk; exact fr1 b hk
                    · rw [f] at hk; injection hk with hk; exact Nat.le_trans ((kA2)).size (Nat.le_of_eq hk)
                  refine hK.out _ _ ((kB).cell' DX.out (fun f => f)) (fun hHeld => ?_)
                  clear hK K
                  (try simp only [Act.put, List.setIfInBounds_toArray, List.set_cons_zero, List.set_cons_succ])
                  refine wpAnyH_ready (rs := [13]) (by kernel_rfl) (by simp) ?_
                  refine AllReadyH.cons (o := ?oAp13) ?hiAp13 (fun K hK => ?_) AllReadyH.nil
                  case hiAp13 => (simp only [List.getElem?_toArray, List.getElem?_cons_succ, List.getElem?_cons_zero]; try rfl)
                  refine step_app 22 22 3 (.int .i64 0) 1 8 Try.underlying22 infoI64 rfl (by decide) (by decide) rfl rfl rfl rfl (v := .slice a3 (k + 1) c3) (sv := (.slice (some ⟨g1, k, none⟩) (N - k) (cp - k))) hown3 (SRC2.out _ kB) (by omega) ?_
                  intro a4 c4 W4 hown4 hgr4 hfr4
                  have kC : Keep NoF wq W4 := kB.grown hgr4 (fun b hk e => by have := fr3 b e; omega)
                  have fr4 : ∀ b, (Value.slice a4 (k + 1 + (N - k)) c4).ownBlock = some b → wq.heap.size ≤ b := fun b hk => by
                    rcases hfr4 with f | f
                    · rw [f] at hk; exact fr3 b hk
                    · rw [f] at hk; injection hk with hk; exact Nat.le_trans (kB).size (Nat.le_of_eq hk)
                  refine hK.out _ _ ((kC).cell' DX.out (fun f => f)) (fun hHeld => ?_)
                  clear hK K
                  (try simp only [Act.put, List.setIfInBounds_toArray, List.set_cons_zero, List.set_cons_succ])
                  refine wpAnyH_take (i := 14) (oi := ?oAp14) (v := ?vAp14) ?hiAp14 (by kernel_rfl) (by kernel_rfl) (by kernel_rfl) (fun _ _ _ h => h) (Or.inl ⟨?wAp14, ?yAp14⟩) (by assumption) ?rAp14
                  case hiAp14 => (simp only [List.getElem?_toArray, List.getElem?_cons_succ, List.getElem?_cons_zero]; try rfl)
                  case wAp14 => rfl
                  case yAp14 => (intro w hSw; (try dsimp only at hSw); go_simp; (try with_reducible rfl))
                  (try simp only [Act.put, List.setIfInBounds_toArray, List.set_cons_zero, List.set_cons_succ])
                  refine wpAnyH_done (by kernel_rfl) ?_ _
                  refine NoPanic.normal ?_
                  go_wp2_with fail
                  go_roundw
                  case rel => exact ⟨i + 1, _, insAt l k x, a4, c4, by omega, by omega, by rw [insAt_length (by rw [HL.out]; omega), HL.out], by go_num, rfl, by rw [insAt, List.map_append, List.map_append]; exact hown4, INS.out.1, INS.out.2, HK.out.trans' (HKQ.out.trans' kC), fun b hb => Nat.le_trans (Nat.le_trans HK.out.size HKQ.out.size) (fr4 b hb)⟩
                  case measure => simp [intOf]; omega
                · go_simp
                  refine hK.out _ _ ((K0.out.alloc _).cell' DX.out (fun f => f)) (fun hHeld => ?_)
                  clear hK K
                  (try simp only [Act.put, List.setIfInBounds_toArray, List.set_cons_zero, List.set_cons_succ])
                  have k02 := K0.out.alloc (.cells #[.int .i64 x] 3 (0, 0))
                  refine wpAnyH_ready (rs := [3]) (by kernel_rfl) (by simp) ?_
                  refine AllReadyH.cons (o := ?oAq3) ?hiAq3 (fun K hK => ?_) AllReadyH.nil
                  case hiAq3 => (simp only [List.getElem?_toArray, List.getElem?_cons_succ, List.getElem?_cons_zero]; try rfl)
                  refine step_app 22 22 3 (.int .i64 0) 1 8 Try.underlying22 infoI64 rfl (by decide) (by decide) rfl rfl rfl rfl (v := .slice none 0 0) (sv := (.slice (some ⟨g1, 0, none⟩) k cp)) (World.ownsRow_nil _ _ _ _) (SRC1.out _ (k02)) (by omega) ?_
                  intro a1 c1 W1 hown1 hgr1 hfr1
                  simp only [Nat.zero_add, List.nil_append] at hown1 hgr1 hfr1 ⊢
                  have kA : Keep NoF wq W1 := (k02).grown hgr1 (fun k _ e => by cases e)
                  have fr1 : ∀ b, (Value.slice a1 k c1).ownBlock = some b → wq.heap.size ≤ b := fun b hk => by
                    rcases hfr1 with f | f
                    · rw [f] at hk; cases hk
                    · rw [f] at hk; injection hk with hk; exact Nat.le_trans ((k02)).size (Nat.le_of_eq hk)
                  refine hK.out _ _ ((kA).cell' DX.out (fun f => f)) (fun hHeld => ?_)
                  clear hK K
                  (try simp only [Act.put, List.setIfInBounds_toArray, List.set_cons_zero, List.set_cons_succ])
                  refine wpAnyH_ready (rs := [9]) (by kernel_rfl) (by simp) ?_
                  refine AllReadyH.cons (o := ?oAq9) ?hiAq9 (fun K hK => ?_) AllReadyH.nil
                  case hiAq9 => (simp only [List.getElem?_toArray, List.getElem?_cons_succ, List.getElem?_cons_zero]; try rfl)
                  have hb2 : W1.heap[wq.drew.heap.size]? = some (.cells #[.int .i64 x] 3 (0, 0)) := by rw [hgr1.block wq.drew.heap.size (by simp) (by simp [Value.ownBlock])]; exact heap_new wq.drew _
                  refine step_app 22 22 3 (.int .i64 0) 1 8 Try.underlying22 infoI64 rfl (by decide) (by decide) rfl rfl rfl rfl (v := .slice a1 k c1) (hown1) (Src.one Try.underlying22 hb2 rfl 1) (by omega) ?_
                  intro a3 c3 W3 hown3 hgr3 hfr3
                  have kB : Keep NoF wq W3 := (kA).grown hgr3 (fun b hk e => by have := fr1 b e; omega)
                  have fr3 : ∀ b, (Value.slice a3 (k + 1) c3).ownBlock = some b → wq.heap.size ≤ b := fun b hk => by
                    rcases hfr3 with f | f
                    · rw [f] at hk; exact fr1 b hk
                    · rw [f] at hk; injection hk with hk; exact Nat.le_trans ((kA)).size (Nat.le_of_eq hk)
                  refine hK.out _ _ ((kB).cell' DX.out (fun f => f)) (fun hHeld => ?_)
                  clear hK K
                  (try simp only [Act.put, List.setIfInBounds_toArray, List.set_cons_zero, List.set_cons_succ])
                  refine wpAnyH_ready (rs := [13]) (by kernel_rfl) (by simp) ?_
                  refine AllReadyH.cons (o := ?oAq13) ?hiAq13 (fun K hK => ?_) AllReadyH.nil
                  case hiAq13 => (simp only [List.getElem?_toArray, List.getElem?_cons_succ, List.getElem?_cons_zero]; try rfl)
                  refine step_app 22 22 3 (.int .i64 0) 1 8 Try.underlying22 infoI64 rfl (by decide) (by decide) rfl rfl rfl rfl (v := .slice a3 (k + 1) c3) (sv := (.slice (some ⟨g1, k, none⟩) (N - k) (cp - k))) hown3 (SRC2.out _ kB) (by omega) ?_
                  intro a4 c4 W4 hown4 hgr4 hfr4
                  have kC : Keep NoF wq W4 := kB.grown hgr4 (fun b hk e => by have := fr3 b e; omega)
                  have fr4 : ∀ b, (Value.slice a4 (k + 1 + (N - k)) c4).ownBlock = some b → wq.heap.size ≤ b := fun b hk => by
                    rcases hfr4 with f | f
                    · rw [f] at hk; exact fr3 b hk
                    · rw [f] at hk; injection hk with hk; exact Nat.le_trans (kB).size (Nat.le_of_eq hk)
                  refine hK.out _ _ ((kC).cell' DX.out (fun f => f)) (fun hHeld => ?_)
                  clear hK K
                  (try simp only [Act.put, List.setIfInBounds_toArray, List.set_cons_zero, List.set_cons_succ])
                  refine wpAnyH_take (i := 14) (oi := ?oAq14) (v := ?vAq14) ?hiAq14 (by kernel_rfl) (by kernel_rfl) (by kernel_rfl) (fun _ _ _ h => h) (Or.inl ⟨?wAq14, ?yAq14⟩) (by assumption) ?rAq14
                  case hiAq14 => (simp only [List.getElem?_toArray, List.getElem?_cons_succ, List.getElem?_cons_zero]; try rfl)
                  case wAq14 => rfl
                  case yAq14 => (intro w hSw; (try dsimp only at hSw); go_simp; (try with_reducible rfl))
                  (try simp only [Act.put, List.setIfInBounds_toArray, List.set_cons_zero, List.set_cons_succ])
                  refine wpAnyH_done (by kernel_rfl) ?_ _
                  refine NoPanic.normal ?_
                  go_wp2_with fail
                  go_roundw
                  case rel => exact ⟨i + 1, _, insAt l k x, a4, c4, by omega, by omega, by rw [insAt_length (by rw [HL.out]; omega), HL.out], by go_num, rfl, by rw [insAt, List.map_append, List.map_append]; exact hown4, INS.out.1, INS.out.2, HK.out.trans' (HKQ.out.trans' kC), fun b hb => Nat.le_trans (Nat.le_trans HK.out.size HKQ.out.size) (fr4 b hb)⟩
                  case measure => simp [intOf]; omega
          · have hkn2 : ¬ (k : Int) < N := by omega
            have hkd : decide ((k : Int) < N) = false := by simp; omega
            have INS : Hid ((insAt l k x).Pairwise (· < ·) ∧ ∀ y, y ∈ insAt l k x ↔ y ∈ V.take (i + 1)) := Lib.hid (ins_done (by rw [HN.out]; exact hlt) HX.out HST.out HMM.out HTL.out (fun hk => by rw [HL.out] at hk; omega))
            clear hkq
            go_wp2_with fail
            go_quiet (fail)
            go_wp2_with fail
            refine wp_named (wq := wA) (by first | exact HKQ.out | exact HKQ.out.drewN _) ?_
            intro wq hz
            clear HKQ dx
            have HKQ := Lib.hid hz
            have DX := Lib.hid (hz.cell' d0 (fun f => f))
            have dx := DX.out
            have K0 := Lib.hid ((Keep.refl NoF wq).drew)
            clear hz
            have hkn3 : ((k : Int) == N) = true := by simp; omega
            go_wp2_with fail
            go_quiet (fail)
            go_wp2_with fail
            clear DX K0
            refine wp_named (wq := wA) (by first | exact HKQ.out | exact HKQ.out.drewN _) ?_
            intro wq hz
            clear HKQ dx
            have HKQ := Lib.hid hz
            have DX := Lib.hid (hz.cell' d0 (fun f => f))
            have dx := DX.out
            have K0 := Lib.hid ((Keep.refl NoF wq).drew)
            clear hz
            rcases HO.out.2 with ⟨e, _⟩ | ⟨g1, cap, cur, e, _⟩
            · injection e with e1 e2 e3
              subst e1 e2 e3
              obtain rfl : k = 0 := by omega
              have hl0 : l = [] := List.eq_nil_of_length_eq_zero HL.out
              subst hl0
              have SRC1 : Hid (∀ W, Keep NoF wq W → Src Try.prog 1 22 (.slice none 0 0) 0 [] W) := Lib.hid fun W _ => Src.ofNil W Try.underlying22 0
              refine wp_region_noPanic ?_
              refine wp_region_held_drew (S := fun W' : World => W'.cell? ⟨g0, o0 + i, none⟩ = some (.int .i64 x)) (by kernel_rfl) ((K0.out).cell' DX.out (fun f => f)) (fun hHeld => ?_)
              refine wpAnyH_take (i := 0) (oi := ?oB0) (v := ?vB0) ?hiB0 (by kernel_rfl) (by kernel_rfl) (by kernel_rfl) (fun _ _ _ h => h) (Or.inl ⟨?wB0, ?yB0⟩) (by assumption) ?rB0
              case hiB0 => (simp only [List.getElem?_toArray, List.getElem?_cons_zero]; try rfl)
              case wB0 => rfl
              case yB0 => (intro w hSw; (try dsimp only at hSw); go_simp; (try with_reducible rfl))
              (try simp only [Act.put, List.setIfInBounds_toArray, List.set_cons_zero, List.set_cons_succ])
              refine wpAnyH_take (i := 1) (oi := ?oB1) (v := ?vB1) ?hiB1 (by kernel_rfl) (by kernel_rfl) (by kernel_rfl) (fun _ _ _ h => h) (Or.inl ⟨?wB1, ?yB1⟩) (by assumption) ?rB1
              case hiB1 => (simp only [List.getElem?_toArray, List.getElem?_cons_succ, List.getElem?_cons_zero]; try rfl)
              case wB1 => rfl
              case yB1 => (intro w hSw; (try dsimp only at hSw); go_simp; (try with_reducible rfl))
              (try simp only [Act.put, List.setIfInBounds_toArray, List.set_cons_zero, List.set_cons_succ])
              refine wpAnyH_take (i := 2) (oi := ?oB2) (v := ?vB2) ?hiB2 (by kernel_rfl) (by kernel_rfl) (by kernel_rfl) (fun _ _ _ h => h) (Or.inl ⟨?wB2, ?yB2⟩) (by assumption) ?rB2
              case hiB2 => (simp only [List.getElem?_toArray, List.getElem?_cons_succ, List.getElem?_cons_zero]; try rfl)
              case wB2 => rfl
              case yB2 => (intro w hSw; (try dsimp only at hSw); go_simp; (try with_reducible rfl))
              (try simp only [Act.put, List.setIfInBounds_toArray, List.set_cons_zero, List.set_cons_succ])
              refine wpAnyH_take (i := 4) (oi := ?oB4) (v := ?vB4) ?hiB4 (by kernel_rfl) (by kernel_rfl) (by kernel_rfl) (fun _ _ _ h => h) (Or.inl ⟨?wB4, ?yB4⟩) (by assumption) ?rB4
              case hiB4 => (simp only [List.getElem?_toArray, List.getElem?_cons_succ, List.getElem?_cons_zero]; try rfl)
              case wB4 => rfl
              case yB4 => (intro w hSw; (try dsimp only at hSw); go_simp; (try with_reducible rfl))
              (try simp only [Act.put, List.setIfInBounds_toArray, List.set_cons_zero, List.set_cons_succ])
              refine wpAnyH_take (i := 5) (oi := ?oB5) (v := ?vB5) ?hiB5 (by kernel_rfl) (by kernel_rfl) (by kernel_rfl) (fun _ _ _ h => h) (Or.inl ⟨?wB5, ?yB5⟩) (by assumption) ?rB5
              case hiB5 => (simp only [List.getElem?_toArray, List.getElem?_cons_succ, List.getElem?_cons_zero]; try rfl)
              case wB5 => rfl
              case yB5 => (intro w hSw; (try dsimp only at hSw); go_simp; (try with_reducible rfl))
              (try simp only [Act.put, List.setIfInBounds_toArray, List.set_cons_zero, List.set_cons_succ])
              refine wpAnyH_take (i := 6) (oi := ?oB6) (v := ?vB6) ?hiB6 (by kernel_rfl) (by kernel_rfl) (by kernel_rfl) (fun _ _ _ h => h) (Or.inl ⟨?wB6, ?yB6⟩) (by assumption) ?rB6
              case hiB6 => (simp only [List.getElem?_toArray, List.getElem?_cons_succ, List.getElem?_cons_zero]; try rfl)
              case wB6 => rfl
              case yB6 => (intro w hSw; (try dsimp only at hSw); go_simp; (try with_reducible rfl))
              (try simp only [Act.put, List.setIfInBounds_toArray, List.set_cons_zero, List.set_cons_succ])
              refine wpAnyH_take (i := 7) (oi := ?oB7) (v := ?vB7) ?hiB7 (by kernel_rfl) (by kernel_rfl) (by kernel_rfl) (fun _ _ _ h => h) (Or.inl ⟨?wB7, ?yB7⟩) (by assumption) ?rB7
              case hiB7 => (simp only [List.getElem?_toArray, List.getElem?_cons_succ, List.getElem?_cons_zero]; try rfl)
              case wB7 => rfl
              case yB7 => (intro w hSw; (try dsimp only at hSw); go_simp; (try with_reducible rfl))
              (try simp only [Act.put, List.setIfInBounds_toArray, List.set_cons_zero, List.set_cons_succ])
              refine wpAnyH_take (i := 10) (oi := ?oB10) (v := ?vB10) ?hiB10 (by kernel_rfl) (by kernel_rfl) (by kernel_rfl) (fun _ _ _ h => h) (Or.inl ⟨?wB10, ?yB10⟩) (by assumption) ?rB10
              case hiB10 => (simp only [List.getElem?_toArray, List.getElem?_cons_succ, List.getElem?_cons_zero]; try rfl)
              case wB10 => rfl
              case yB10 => (intro w hSw; (try dsimp only at hSw); go_simp; (try with_reducible rfl))
              (try simp only [Act.put, List.setIfInBounds_toArray, List.set_cons_zero, List.set_cons_succ])
              refine wpAnyH_take (i := 11) (oi := ?oB11) (v := ?vB11) ?hiB11 (by kernel_rfl) (by kernel_rfl) (by kernel_rfl) (fun _ _ _ h => h) (Or.inl ⟨?wB11, ?yB11⟩) (by assumption) ?rB11
              case hiB11 => (simp only [List.getElem?_toArray, List.getElem?_cons_succ, List.getElem?_cons_zero]; try rfl)
              case wB11 => rfl
              case yB11 => (intro w hSw; (try dsimp only at hSw); go_simp; (try with_reducible rfl))
              (try simp only [Act.put, List.setIfInBounds_toArray, List.set_cons_zero, List.set_cons_succ])
              refine wpAnyH_take (i := 12) (oi := ?oB12) (v := ?vB12) ?hiB12 (by kernel_rfl) (by kernel_rfl) (by kernel_rfl) (fun _ _ _ h => h) (Or.inl ⟨?wB12, ?yB12⟩) (by assumption) ?rB12
              case hiB12 => (simp only [List.getElem?_toArray, List.getElem?_cons_succ, List.getElem?_cons_zero]; try rfl)
              case wB12 => rfl
              case yB12 => (intro w hSw; (try dsimp only at hSw); go_simp; (try with_reducible rfl))
              (try simp only [Act.put, List.setIfInBounds_toArray, List.set_cons_zero, List.set_cons_succ])
              refine wpAnyH_ready (rs := [3, 8]) (by kernel_rfl) (by simp) ?_
              refine AllReadyH.cons (o := ?oB3) ?hiB3 (fun K hK => ?_) (AllReadyH.cons (o := ?oB8) ?hiB8 (fun K hK => ?_) AllReadyH.nil)
              case hiB3 => (simp only [List.getElem?_toArray, List.getElem?_cons_succ, List.getElem?_cons_zero]; try rfl)
              case hiB8 => (simp only [List.getElem?_toArray, List.getElem?_cons_succ, List.getElem?_cons_zero]; try rfl)
              · refine step_app 22 22 3 (.int .i64 0) 1 8 Try.underlying22 infoI64 rfl (by decide) (by decide) rfl rfl rfl rfl (v := .slice none 0 0) (sv := (.slice none 0 0)) (World.ownsRow_nil _ _ _ _) (SRC1.out _ (K0.out)) (by omega) ?_
                intro a1 c1 W1 hown1 hgr1 hfr1
                simp only [Nat.zero_add, List.nil_append] at hown1 hgr1 hfr1 ⊢
                have kA : Keep NoF wq W1 := (K0.out).grown hgr1 (fun k _ e => by cases e)
                have fr1 : ∀ b, (Value.slice a1 0 c1).ownBlock = some b → wq.heap.size ≤ b := fun b hk => by
                  rcases hfr1 with f | f
                  · rw [f] at hk; cases hk
                  · rw [f] at hk; injection hk with hk; exact Nat.le_trans ((K0.out)).size (Nat.le_of_eq hk)
                refine hK.out _ _ ((kA).cell' DX.out (fun f => f)) (fun hHeld => ?_)
                clear hK K
                (try simp only [Act.put, List.setIfInBounds_toArray, List.set_cons_zero, List.set_cons_succ])
                refine wpAnyH_ready (rs := [8]) (by kernel_rfl) (by simp) ?_
                refine AllReadyH.cons (o := ?oBp8) ?hiBp8 (fun K hK => ?_) AllReadyH.nil
                case hiBp8 => (simp only [List.getElem?_toArray, List.getElem?_cons_succ, List.getElem?_cons_zero]; try rfl)
                go_simp
                refine hK.out _ _ ((kA.alloc _).cell' DX.out (fun f => f)) (fun hHeld => ?_)
                clear hK K
                (try simp only [Act.put, List.setIfInBounds_toArray, List.set_cons_zero, List.set_cons_succ])
                have kA2 := kA.alloc (.cells #[.int .i64 x] 3 (0, 0))
                refine wpAnyH_ready (rs := [9]) (by kernel_rfl) (by simp) ?_
                refine AllReadyH.cons (o := ?oBp9) ?hiBp9 (fun K hK => ?_) AllReadyH.nil
                case hiBp9 => (simp only [List.getElem?_toArray, List.getElem?_cons_succ, List.getElem?_cons_zero]; try rfl)
                refine step_app 22 22 3 (.int .i64 0) 1 8 Try.underlying22 infoI64 rfl (by decide) (by decide) rfl rfl rfl rfl (v := .slice a1 0 c1) (hown1.alloc _) (Src.one Try.underlying22 (heap_new W1 _) rfl 1) (by omega) ?_
                intro a3 c3 W3 hown3 hgr3 hfr3
                have kB : Keep NoF wq W3 := (kA2).grown hgr3 (fun b hk e => by have := fr1 b e; omega)
                have fr3 : ∀ b, (Value.slice a3 (0 + 1) c3).ownBlock = some b → wq.heap.size ≤ b := fun b hk => by
                  rcases hfr3 with f | f
                  · rw [f] at hk; exact fr1 b hk
                  · rw [f] at hk; injection hk with hk; exact Nat.le_trans ((kA2)).size (Nat.le_of_eq hk)
                refine hK.out _ _ ((kB).cell' DX.out (fun f => f)) (fun hHeld => ?_)
                clear hK K
                (try simp only [Act.put, List.setIfInBounds_toArray, List.set_cons_zero, List.set_cons_succ])
                refine wpAnyH_ready (rs := [13]) (by kernel_rfl) (by simp) ?_
                refine AllReadyH.cons (o := ?oBp13) ?hiBp13 (fun K hK => ?_) AllReadyH.nil
                case hiBp13 => (simp only [List.getElem?_toArray, List.getElem?_cons_succ, List.getElem?_cons_zero]; try rfl)
                refine step_app 22 22 3 (.int .i64 0) 1 8 Try.underlying22 infoI64 rfl (by decide) (by decide) rfl rfl rfl rfl (v := .slice a3 (0 + 1) c3) (sv := (.slice none 0 0)) hown3 (SRC1.out _ kB) (by omega) ?_
                intro a4 c4 W4 hown4 hgr4 hfr4
                have kC : Keep NoF wq W4 := kB.grown hgr4 (fun b hk e => by have := fr3 b e; omega)
                have fr4 : ∀ b, (Value.slice a4 (0 + 1 + 0) c4).ownBlock = some b → wq.heap.size ≤ b := fun b hk => by
                  rcases hfr4 with f | f
                  · rw [f] at hk; exact fr3 b hk
                  · rw [f] at hk; injection hk with hk; exact Nat.le_trans (kB).size (Nat.le_of_eq hk)
                refine hK.out _ _ ((kC).cell' DX.out (fun f => f)) (fun hHeld => ?_)
                clear hK K
                (try simp only [Act.put, List.setIfInBounds_toArray, List.set_cons_zero, List.set_cons_succ])
                refine wpAnyH_take (i := 14) (oi := ?oBp14) (v := ?vBp14) ?hiBp14 (by kernel_rfl) (by kernel_rfl) (by kernel_rfl) (fun _ _ _ h => h) (Or.inl ⟨?wBp14, ?yBp14⟩) (by assumption) ?rBp14
                case hiBp14 => (simp only [List.getElem?_toArray, List.getElem?_cons_succ, List.getElem?_cons_zero]; try rfl)
                case wBp14 => rfl
                case yBp14 => (intro w hSw; (try dsimp only at hSw); go_simp; (try with_reducible rfl))
                (try simp only [Act.put, List.setIfInBounds_toArray, List.set_cons_zero, List.set_cons_succ])
                refine wpAnyH_done (by kernel_rfl) ?_ _
                refine NoPanic.normal ?_
                go_wp2_with fail
                go_roundw
                case rel => exact ⟨i + 1, _, insAt [] 0 x, a4, c4, by omega, by omega, by simp [insAt], by go_num, rfl, by simpa [insAt] using hown4, INS.out.1, INS.out.2, HK.out.trans' (HKQ.out.trans' kC), fun b hb => Nat.le_trans (Nat.le_trans HK.out.size HKQ.out.size) (fr4 b hb)⟩
                case measure => simp [intOf]; omega
              · go_simp
                refine hK.out _ _ ((K0.out.alloc _).cell' DX.out (fun f => f)) (fun hHeld => ?_)
                clear hK K
                (try simp only [Act.put, List.setIfInBounds_toArray, List.set_cons_zero, List.set_cons_succ])
                have k02 := K0.out.alloc (.cells #[.int .i64 x] 3 (0, 0))
                refine wpAnyH_ready (rs := [3]) (by kernel_rfl) (by simp) ?_
                refine AllReadyH.cons (o := ?oBq3) ?hiBq3 (fun K hK => ?_) AllReadyH.nil
                case hiBq3 => (simp only [List.getElem?_toArray, List.getElem?_cons_succ, List.getElem?_cons_zero]; try rfl)
                refine step_app 22 22 3 (.int .i64 0) 1 8 Try.underlying22 infoI64 rfl (by decide) (by decide) rfl rfl rfl rfl (v := .slice none 0 0) (sv := (.slice none 0 0)) (World.ownsRow_nil _ _ _ _) (SRC1.out _ (k02)) (by omega) ?_
                intro a1 c1 W1 hown1 hgr1 hfr1
                simp only [Nat.zero_add, List.nil_append] at hown1 hgr1 hfr1 ⊢
                have kA : Keep NoF wq W1 := (k02).grown hgr1 (fun k _ e => by cases e)
                have fr1 : ∀ b, (Value.slice a1 0 c1).ownBlock = some b → wq.heap.size ≤ b := fun b hk => by
                  rcases hfr1 with f | f
                  · rw [f] at hk; cases hk
                  · rw [f] at hk; injection hk with hk; exact Nat.le_trans ((k02)).size (Nat.le_of_eq hk)
                refine hK.out _ _ ((kA).cell' DX.out (fun f => f)) (fun hHeld => ?_)
                clear hK K
                (try simp only [Act.put, List.setIfInBounds_toArray, List.set_cons_zero, List.set_cons_succ])
                refine wpAnyH_ready (rs := [9]) (by kernel_rfl) (by simp) ?_
                refine AllReadyH.cons (o := ?oBq9) ?hiBq9 (fun K hK => ?_) AllReadyH.nil
                case hiBq9 => (simp only [List.getElem?_toArray, List.getElem?_cons_succ, List.getElem?_cons_zero]; try rfl)
                have hb2 : W1.heap[wq.drew.heap.size]? = some (.cells #[.int .i64 x] 3 (0, 0)) := by rw [hgr1.block wq.drew.heap.size (by simp) (by simp [Value.ownBlock])]; exact heap_new wq.drew _
                refine step_app 22 22 3 (.int .i64 0) 1 8 Try.underlying22 infoI64 rfl (by decide) (by decide) rfl rfl rfl rfl (v := .slice a1 0 c1) (hown1) (Src.one Try.underlying22 hb2 rfl 1) (by omega) ?_
                intro a3 c3 W3 hown3 hgr3 hfr3
                have kB : Keep NoF wq W3 := (kA).grown hgr3 (fun b hk e => by have := fr1 b e; omega)
                have fr3 : ∀ b, (Value.slice a3 (0 + 1) c3).ownBlock = some b → wq.heap.size ≤ b := fun b hk => by
                  rcases hfr3 with f | f
                  · rw [f] at hk; exact fr1 b hk
                  · rw [f] at hk; injection hk with hk; exact Nat.le_trans ((kA)).size (Nat.le_of_eq hk)
                refine hK.out _ _ ((kB).cell' DX.out (fun f => f)) (fun hHeld => ?_)
                clear hK K
                (try simp only [Act.put, List.setIfInBounds_toArray, List.set_cons_zero, List.set_cons_succ])
                refine wpAnyH_ready (rs := [13]) (by kernel_rfl) (by simp) ?_
                refine AllReadyH.cons (o := ?oBq13) ?hiBq13 (fun K hK => ?_) AllReadyH.nil
                case hiBq13 => (simp only [List.getElem?_toArray, List.getElem?_cons_succ, List.getElem?_cons_zero]; try rfl)
                refine step_app 22 22 3 (.int .i64 0) 1 8 Try.underlying22 infoI64 rfl (by decide) (by decide) rfl rfl rfl rfl (v := .slice a3 (0 + 1) c3) (sv := (.slice none 0 0)) hown3 (SRC1.out _ kB) (by omega) ?_
                intro a4 c4 W4 hown4 hgr4 hfr4
                have kC : Keep NoF wq W4 := kB.grown hgr4 (fun b hk e => by have := fr3 b e; omega)
                have fr4 : ∀ b, (Value.slice a4 (0 + 1 + 0) c4).ownBlock = some b → wq.heap.size ≤ b := fun b hk => by
                  rcases hfr4 with f | f
                  · rw [f] at hk; exact fr3 b hk
                  · rw [f] at hk; injection hk with hk; exact Nat.le_trans (kB).size (Nat.le_of_eq hk)
                refine hK.out _ _ ((kC).cell' DX.out (fun f => f)) (fun hHeld => ?_)
                clear hK K
                (try simp only [Act.put, List.setIfInBounds_toArray, List.set_cons_zero, List.set_cons_succ])
                refine wpAnyH_take (i := 14) (oi := ?oBq14) (v := ?vBq14) ?hiBq14 (by kernel_rfl) (by kernel_rfl) (by kernel_rfl) (fun _ _ _ h => h) (Or.inl ⟨?wBq14, ?yBq14⟩) (by assumption) ?rBq14
                case hiBq14 => (simp only [List.getElem?_toArray, List.getElem?_cons_succ, List.getElem?_cons_zero]; try rfl)
                case wBq14 => rfl
                case yBq14 => (intro w hSw; (try dsimp only at hSw); go_simp; (try with_reducible rfl))
                (try simp only [Act.put, List.setIfInBounds_toArray, List.set_cons_zero, List.set_cons_succ])
                refine wpAnyH_done (by kernel_rfl) ?_ _
                refine NoPanic.normal ?_
                go_wp2_with fail
                go_roundw
                case rel => exact ⟨i + 1, _, insAt [] 0 x, a4, c4, by omega, by omega, by simp [insAt], by go_num, rfl, by simpa [insAt] using hown4, INS.out.1, INS.out.2, HK.out.trans' (HKQ.out.trans' kC), fun b hb => Nat.le_trans (Nat.le_trans HK.out.size HKQ.out.size) (fr4 b hb)⟩
                case measure => simp [intOf]; omega
            · injection e with e1 e2 e3
              subst e1 e3
              have hO2 := src_some HL.out HO.out k (by omega)
              have SRC1 : Hid (∀ W, Keep NoF wq W → Src Try.prog 1 22 (.slice (some ⟨g1, 0, none⟩) k cp) k ((l.take k).map (.int .i64)) W) := Lib.hid fun W hW => (hO2 W (HKQ.out.trans' hW) cp (cp - k)).1
              obtain ⟨qa, hqa⟩ : ∃ qa, (if cp = k then (some ⟨g1, 0, none⟩ : Option Addr) else some ⟨g1, k, none⟩) = qa := ⟨_, rfl⟩
              have SRC2 : Hid (∀ W, Keep NoF wq W → Src Try.prog 1 22 (.slice qa (N - k) (cp - k)) (N - k) ((l.drop k).map (.int .i64)) W) := Lib.hid fun W hW => by
                have h2 := (hO2 W (HKQ.out.trans' hW) cp (cp - k)).2
                rw [← hqa]
                split
                · have e0 : l.drop k = [] := List.drop_eq_nil_of_le (by rw [HL.out]; omega)
                  rw [e0, show N - k = 0 by omega]
                  exact Src.ofSlice W Try.underlying22 _ _ _ _ rfl (fun j u hu => by simp at hu) (by simp)
                · exact h2
              clear hO2
              have hcpk : k ≤ cp := by have := HSR.out.1; rw [HL.out] at this; omega
              have hcp2 := HSR.out.2.1
              have hNcp : N ≤ cp := by have := HSR.out.1; rw [HL.out] at this; exact this
              unfold maxLen at hcp2
              refine wp_region_noPanic ?_
              refine wp_region_held_drew (S := fun W' : World => W'.cell? ⟨g0, o0 + i, none⟩ = some (.int .i64 x)) (by kernel_rfl) ((K0.out).cell' DX.out (fun f => f)) (fun hHeld => ?_)
              refine wpAnyH_take (i := 0) (oi := ?oC0) (v := ?vC0) ?hiC0 (by kernel_rfl) (by kernel_rfl) (by kernel_rfl) (fun _ _ _ h => h) (Or.inl ⟨?wC0, ?yC0⟩) (by assumption) ?rC0
              case hiC0 => (simp only [List.getElem?_toArray, List.getElem?_cons_zero]; try rfl)
              case wC0 => rfl
              case yC0 => (intro w hSw; (try dsimp only at hSw); go_simp; (try with_reducible rfl))
              (try simp only [Act.put, List.setIfInBounds_toArray, List.set_cons_zero, List.set_cons_succ])
              refine wpAnyH_take (i := 1) (oi := ?oC1) (v := ?vC1) ?hiC1 (by kernel_rfl) (by kernel_rfl) (by kernel_rfl) (fun _ _ _ h => h) (Or.inl ⟨?wC1, ?yC1⟩) (by assumption) ?rC1
              case hiC1 => (simp only [List.getElem?_toArray, List.getElem?_cons_succ, List.getElem?_cons_zero]; try rfl)
              case wC1 => rfl
              case yC1 => (intro w hSw; (try dsimp only at hSw); go_simp; (try with_reducible rfl))
              (try simp only [Act.put, List.setIfInBounds_toArray, List.set_cons_zero, List.set_cons_succ])
              refine wpAnyH_take (i := 2) (oi := ?oC2) (v := ?vC2) ?hiC2 (by kernel_rfl) (by kernel_rfl) (by kernel_rfl) (fun _ _ _ h => h) (Or.inl ⟨?wC2, ?yC2⟩) (by assumption) ?rC2
              case hiC2 => (simp only [List.getElem?_toArray, List.getElem?_cons_succ, List.getElem?_cons_zero]; try rfl)
              case wC2 => rfl
              case yC2 => (intro w hSw; (try dsimp only at hSw); go_simp; (try with_reducible rfl))
              (try simp only [Act.put, List.setIfInBounds_toArray, List.set_cons_zero, List.set_cons_succ])
              refine wpAnyH_take (i := 4) (oi := ?oC4) (v := ?vC4) ?hiC4 (by kernel_rfl) (by kernel_rfl) (by kernel_rfl) (fun _ _ _ h => h) (Or.inl ⟨?wC4, ?yC4⟩) (by assumption) ?rC4
              case hiC4 => (simp only [List.getElem?_toArray, List.getElem?_cons_succ, List.getElem?_cons_zero]; try rfl)
              case wC4 => rfl
              case yC4 => (intro w hSw; (try dsimp only at hSw); go_simp; (try with_reducible rfl))
              (try simp only [Act.put, List.setIfInBounds_toArray, List.set_cons_zero, List.set_cons_succ])
              refine wpAnyH_take (i := 5) (oi := ?oC5) (v := ?vC5) ?hiC5 (by kernel_rfl) (by kernel_rfl) (by kernel_rfl) (fun _ _ _ h => h) (Or.inl ⟨?wC5, ?yC5⟩) (by assumption) ?rC5
              case hiC5 => (simp only [List.getElem?_toArray, List.getElem?_cons_succ, List.getElem?_cons_zero]; try rfl)
              case wC5 => rfl
              case yC5 => (intro w hSw; (try dsimp only at hSw); go_simp; (try with_reducible rfl))
              (try simp only [Act.put, List.setIfInBounds_toArray, List.set_cons_zero, List.set_cons_succ])
              refine wpAnyH_take (i := 6) (oi := ?oC6) (v := ?vC6) ?hiC6 (by kernel_rfl) (by kernel_rfl) (by kernel_rfl) (fun _ _ _ h => h) (Or.inl ⟨?wC6, ?yC6⟩) (by assumption) ?rC6
              case hiC6 => (simp only [List.getElem?_toArray, List.getElem?_cons_succ, List.getElem?_cons_zero]; try rfl)
              case wC6 => rfl
              case yC6 => (intro w hSw; (try dsimp only at hSw); go_simp; (try with_reducible rfl))
              (try simp only [Act.put, List.setIfInBounds_toArray, List.set_cons_zero, List.set_cons_succ])
              refine wpAnyH_take (i := 7) (oi := ?oC7) (v := ?vC7) ?hiC7 (by kernel_rfl) (by kernel_rfl) (by kernel_rfl) (fun _ _ _ h => h) (Or.inl ⟨?wC7, ?yC7⟩) (by assumption) ?rC7
              case hiC7 => (simp only [List.getElem?_toArray, List.getElem?_cons_succ, List.getElem?_cons_zero]; try rfl)
              case wC7 => rfl
              case yC7 => (intro w hSw; (try dsimp only at hSw); go_simp; (try with_reducible rfl))
              (try simp only [Act.put, List.setIfInBounds_toArray, List.set_cons_zero, List.set_cons_succ])
              refine wpAnyH_take (i := 10) (oi := ?oC10) (v := ?vC10) ?hiC10 (by kernel_rfl) (by kernel_rfl) (by kernel_rfl) (fun _ _ _ h => h) (Or.inl ⟨?wC10, ?yC10⟩) (by assumption) ?rC10
              case hiC10 => (simp only [List.getElem?_toArray, List.getElem?_cons_succ, List.getElem?_cons_zero]; try rfl)
              case wC10 => rfl
              case yC10 => (intro w hSw; (try dsimp only at hSw); go_simp; (try with_reducible rfl))
              (try simp only [Act.put, List.setIfInBounds_toArray, List.set_cons_zero, List.set_cons_succ])
              refine wpAnyH_take (i := 11) (oi := ?oC11) (v := ?vC11) ?hiC11 (by kernel_rfl) (by kernel_rfl) (by kernel_rfl) (fun _ _ _ h => h) (Or.inl ⟨?wC11, ?yC11⟩) (by assumption) ?rC11
              case hiC11 => (simp only [List.getElem?_toArray, List.getElem?_cons_succ, List.getElem?_cons_zero]; try rfl)
              case wC11 => rfl
              case yC11 => (intro w hSw; (try dsimp only at hSw); go_simp; (try with_reducible rfl))
              (try simp only [Act.put, List.setIfInBounds_toArray, List.set_cons_zero, List.set_cons_succ])
              refine wpAnyH_take (i := 12) (oi := ?oC12) (v := ?vC12) ?hiC12 (by kernel_rfl) (by kernel_rfl) (by kernel_rfl) (fun _ _ _ h => h) (Or.inl ⟨?wC12, ?yC12⟩) (by assumption) ?rC12
              case hiC12 => (simp only [List.getElem?_toArray, List.getElem?_cons_succ, List.getElem?_cons_zero]; try rfl)
              case wC12 => rfl
              case yC12 => (intro w hSw; (try dsimp only at hSw); go_simp; (try with_reducible rfl))
              (try simp only [Act.put, List.setIfInBounds_toArray, List.set_cons_zero, List.set_cons_succ])
              refine wpAnyH_ready (rs := [3, 8]) (by kernel_rfl) (by simp) ?_
              refine AllReadyH.cons (o := ?oC3) ?hiC3 (fun K hK => ?_) (AllReadyH.cons (o := ?oC8) ?hiC8 (fun K hK => ?_) AllReadyH.nil)
              case hiC3 => (simp only [List.getElem?_toArray, List.getElem?_cons_succ, List.getElem?_cons_zero]; try rfl)
              case hiC8 => (simp only [List.getElem?_toArray, List.getElem?_cons_succ, List.getElem?_cons_zero]; try rfl)
              · refine step_app 22 22 3 (.int .i64 0) 1 8 Try.underlying22 infoI64 rfl (by decide) (by decide) rfl rfl rfl rfl (v := .slice none 0 0) (sv := (.slice (some ⟨g1, 0, none⟩) k cp)) (World.ownsRow_nil _ _ _ _) (SRC1.out _ (K0.out)) (by omega) ?_
                intro a1 c1 W1 hown1 hgr1 hfr1
                simp only [Nat.zero_add, List.nil_append] at hown1 hgr1 hfr1 ⊢
                have kA : Keep NoF wq W1 := (K0.out).grown hgr1 (fun k _ e => by cases e)
                have fr1 : ∀ b, (Value.slice a1 k c1).ownBlock = some b → wq.heap.size ≤ b := fun b hk => by
                  rcases hfr1 with f | f
                  · rw [f] at hk; cases hk
                  · rw [f] at hk; injection hk with hk; exact Nat.le_trans ((K0.out)).size (Nat.le_of_eq hk)
                refine hK.out _ _ ((kA).cell' DX.out (fun f => f)) (fun hHeld => ?_)
                clear hK K
                (try simp only [Act.put, List.setIfInBounds_toArray, List.set_cons_zero, List.set_cons_succ])
                refine wpAnyH_ready (rs := [8]) (by kernel_rfl) (by simp) ?_
                refine AllReadyH.cons (o := ?oCp8) ?hiCp8 (fun K hK => ?_) AllReadyH.nil
                case hiCp8 => (simp only [List.getElem?_toArray, List.getElem?_cons_succ, List.getElem?_cons_zero]; try rfl)
                go_simp
                refine hK.out _ _ ((kA.alloc _).cell' DX.out (fun f => f)) (fun hHeld => ?_)
                clear hK K
                (try simp only [Act.put, List.setIfInBounds_toArray, List.set_cons_zero, List.set_cons_succ])
                have kA2 := kA.alloc (.cells #[.int .i64 x] 3 (0, 0))
                refine wpAnyH_ready (rs := [9]) (by kernel_rfl) (by simp) ?_
                refine AllReadyH.cons (o := ?oCp9) ?hiCp9 (fun K hK => ?_) AllReadyH.nil
                case hiCp9 => (simp only [List.getElem?_toArray, List.getElem?_cons_succ, List.getElem?_cons_zero]; try rfl)
                refine step_app 22 22 3 (.int .i64 0) 1 8 Try.underlying22 infoI64 rfl (by decide) (by decide) rfl rfl rfl rfl (v := .slice a1 k c1) (hown1.alloc _) (Src.one Try.underlying22 (heap_new W1 _) rfl 1) (by omega) ?_
                intro a3 c3 W3 hown3 hgr3 hfr3
                have kB : Keep NoF wq W3 := (kA2).grown hgr3 (fun b hk e => by have := fr1 b e; omega)
                have fr3 : ∀ b, (Value.slice a3 (k + 1) c3).ownBlock = some b → wq.heap.size ≤ b := fun b hk => by
                  rcases hfr3 with f | f
                  · rw [f] at hk; exact fr1 b hk
                  · rw [f] at hk; injection hk with hk; exact Nat.le_trans ((kA2)).size (Nat.le_of_eq hk)
                refine hK.out _ _ ((kB).cell' DX.out (fun f => f)) (fun hHeld => ?_)
                clear hK K
                (try simp only [Act.put, List.setIfInBounds_toArray, List.set_cons_zero, List.set_cons_succ])
                refine wpAnyH_ready (rs := [13]) (by kernel_rfl) (by simp) ?_
                refine AllReadyH.cons (o := ?oCp13) ?hiCp13 (fun K hK => ?_) AllReadyH.nil
                case hiCp13 => (simp only [List.getElem?_toArray, List.getElem?_cons_succ, List.getElem?_cons_zero]; try rfl)
                refine step_app 22 22 3 (.int .i64 0) 1 8 Try.underlying22 infoI64 rfl (by decide) (by decide) rfl rfl rfl rfl (v := .slice a3 (k + 1) c3) (sv := (.slice qa (N - k) (cp - k))) hown3 (SRC2.out _ kB) (by omega) ?_
                intro a4 c4 W4 hown4 hgr4 hfr4
                have kC : Keep NoF wq W4 := kB.grown hgr4 (fun b hk e => by have := fr3 b e; omega)
                have fr4 : ∀ b, (Value.slice a4 (k + 1 + (N - k)) c4).ownBlock = some b → wq.heap.size ≤ b := fun b hk => by
                  rcases hfr4 with f | f
                  · rw [f] at hk; exact fr3 b hk
                  · rw [f] at hk; injection hk with hk; exact Nat.le_trans (kB).size (Nat.le_of_eq hk)
                refine hK.out _ _ ((kC).cell' DX.out (fun f => f)) (fun hHeld => ?_)
                clear hK K
                (try simp only [Act.put, List.setIfInBounds_toArray, List.set_cons_zero, List.set_cons_succ])
                refine wpAnyH_take (i := 14) (oi := ?oCp14) (v := ?vCp14) ?hiCp14 (by kernel_rfl) (by kernel_rfl) (by kernel_rfl) (fun _ _ _ h => h) (Or.inl ⟨?wCp14, ?yCp14⟩) (by assumption) ?rCp14
                case hiCp14 => (simp only [List.getElem?_toArray, List.getElem?_cons_succ, List.getElem?_cons_zero]; try rfl)
                case wCp14 => rfl
                case yCp14 => (intro w hSw; (try dsimp only at hSw); go_simp; (try with_reducible rfl))
                (try simp only [Act.put, List.setIfInBounds_toArray, List.set_cons_zero, List.set_cons_succ])
                refine wpAnyH_done (by kernel_rfl) ?_ _
                refine NoPanic.normal ?_
                go_wp2_with fail
                go_roundw
                case rel => exact ⟨i + 1, _, insAt l k x, a4, c4, by omega, by omega, by rw [insAt_length (by rw [HL.out]; omega), HL.out], by go_num, rfl, by rw [insAt, List.map_append, List.map_append]; exact hown4, INS.out.1, INS.out.2, HK.out.trans' (HKQ.out.trans' kC), fun b hb => Nat.le_trans (Nat.le_trans HK.out.size HKQ.out.size) (fr4 b hb)⟩
                case measure => simp [intOf]; omega
              · go_simp
                refine hK.out _ _ ((K0.out.alloc _).cell' DX.out (fun f => f)) (fun hHeld => ?_)
                clear hK K
                (try simp only [Act.put, List.setIfInBounds_toArray, List.set_cons_zero, List.set_cons_succ])
                have k02 := K0.out.alloc (.cells #[.int .i64 x] 3 (0, 0))
                refine wpAnyH_ready (rs := [3]) (by kernel_rfl) (by simp) ?_
                refine AllReadyH.cons (o := ?oCq3) ?hiCq3 (fun K hK => ?_) AllReadyH.nil
                case hiCq3 => (simp only [List.getElem?_toArray, List.getElem?_cons_succ, List.getElem?_cons_zero]; try rfl)
                refine step_app 22 22 3 (.int .i64 0) 1 8 Try.underlying22 infoI64 rfl (by decide) (by decide) rfl rfl rfl rfl (v := .slice none 0 0) (sv := (.slice (some ⟨g1, 0, none⟩) k cp)) (World.ownsRow_nil _ _ _ _) (SRC1.out _ (k02)) (by omega) ?_
                intro a1 c1 W1 hown1 hgr1 hfr1
                simp only [Nat.zero_add, List.nil_append] at hown1 hgr1 hfr1 ⊢
                have kA : Keep NoF wq W1 := (k02).grown hgr1 (fun k _ e => by cases e)
                have fr1 : ∀ b, (Value.slice a1 k c1).ownBlock = some b → wq.heap.size ≤ b := fun b hk => by
                  rcases hfr1 with f | f
                  · rw [f] at hk; cases hk
                  · rw [f] at hk; injection hk with hk; exact Nat.le_trans ((k02)).size (Nat.le_of_eq hk)
                refine hK.out _ _ ((kA).cell' DX.out (fun f => f)) (fun hHeld => ?_)
                clear hK K
                (try simp only [Act.put, List.setIfInBounds_toArray, List.set_cons_zero, List.set_cons_succ])
                refine wpAnyH_ready (rs := [9]) (by kernel_rfl) (by simp) ?_
                refine AllReadyH.cons (o := ?oCq9) ?hiCq9 (fun K hK => ?_) AllReadyH.nil
                case hiCq9 => (simp only [List.getElem?_toArray, List.getElem?_cons_succ, List.getElem?_cons_zero]; try rfl)
                have hb2 : W1.heap[wq.drew.heap.size]? = some (.cells #[.int .i64 x] 3 (0, 0)) := by rw [hgr1.block wq.drew.heap.size (by simp) (by simp [Value.ownBlock])]; exact heap_new wq.drew _
                refine step_app 22 22 3 (.int .i64 0) 1 8 Try.underlying22 infoI64 rfl (by decide) (by decide) rfl rfl rfl rfl (v := .slice a1 k c1) (hown1) (Src.one Try.underlying22 hb2 rfl 1) (by omega) ?_
                intro a3 c3 W3 hown3 hgr3 hfr3
                have kB : Keep NoF wq W3 := (kA).grown hgr3 (fun b hk e => by have := fr1 b e; omega)
                have fr3 : ∀ b, (Value.slice a3 (k + 1) c3).ownBlock = some b → wq.heap.size ≤ b := fun b hk => by
                  rcases hfr3 with f | f
                  · rw [f] at hk; exact fr1 b hk
                  · rw [f] at hk; injection hk with hk; exact Nat.le_trans ((kA)).size (Nat.le_of_eq hk)
                refine hK.out _ _ ((kB).cell' DX.out (fun f => f)) (fun hHeld => ?_)
                clear hK K
                (try simp only [Act.put, List.setIfInBounds_toArray, List.set_cons_zero, List.set_cons_succ])
                refine wpAnyH_ready (rs := [13]) (by kernel_rfl) (by simp) ?_
                refine AllReadyH.cons (o := ?oCq13) ?hiCq13 (fun K hK => ?_) AllReadyH.nil
                case hiCq13 => (simp only [List.getElem?_toArray, List.getElem?_cons_succ, List.getElem?_cons_zero]; try rfl)
                refine step_app 22 22 3 (.int .i64 0) 1 8 Try.underlying22 infoI64 rfl (by decide) (by decide) rfl rfl rfl rfl (v := .slice a3 (k + 1) c3) (sv := (.slice qa (N - k) (cp - k))) hown3 (SRC2.out _ kB) (by omega) ?_
                intro a4 c4 W4 hown4 hgr4 hfr4
                have kC : Keep NoF wq W4 := kB.grown hgr4 (fun b hk e => by have := fr3 b e; omega)
                have fr4 : ∀ b, (Value.slice a4 (k + 1 + (N - k)) c4).ownBlock = some b → wq.heap.size ≤ b := fun b hk => by
                  rcases hfr4 with f | f
                  · rw [f] at hk; exact fr3 b hk
                  · rw [f] at hk; injection hk with hk; exact Nat.le_trans (kB).size (Nat.le_of_eq hk)
                refine hK.out _ _ ((kC).cell' DX.out (fun f => f)) (fun hHeld => ?_)
                clear hK K
                (try simp only [Act.put, List.setIfInBounds_toArray, List.set_cons_zero, List.set_cons_succ])
                refine wpAnyH_take (i := 14) (oi := ?oCq14) (v := ?vCq14) ?hiCq14 (by kernel_rfl) (by kernel_rfl) (by kernel_rfl) (fun _ _ _ h => h) (Or.inl ⟨?wCq14, ?yCq14⟩) (by assumption) ?rCq14
                case hiCq14 => (simp only [List.getElem?_toArray, List.getElem?_cons_succ, List.getElem?_cons_zero]; try rfl)
                case wCq14 => rfl
                case yCq14 => (intro w hSw; (try dsimp only at hSw); go_simp; (try with_reducible rfl))
                (try simp only [Act.put, List.setIfInBounds_toArray, List.set_cons_zero, List.set_cons_succ])
                refine wpAnyH_done (by kernel_rfl) ?_ _
                refine NoPanic.normal ?_
                go_wp2_with fail
                go_roundw
                case rel => exact ⟨i + 1, _, insAt l k x, a4, c4, by omega, by omega, by rw [insAt_length (by rw [HL.out]; omega), HL.out], by go_num, rfl, by rw [insAt, List.map_append, List.map_append]; exact hown4, INS.out.1, INS.out.2, HK.out.trans' (HKQ.out.trans' kC), fun b hb => Nat.le_trans (Nat.le_trans HK.out.size HKQ.out.size) (fr4 b hb)⟩
                case measure => simp [intOf]; omega
      · have hlt2 : ¬ (i : Int) < n := by omega
        obtain rfl : i = n := by omega
        have HR : Hid (sortD kb = l) := Lib.hid (strict_eq (sortD_strict kb) HST.out (fun x => by rw [mem_sortD, HME.out, HMM.out, List.take_of_length_le (by rw [HN.out]; omega)]))
        have hsr : SlI wr ao cp l := row_sliB hl hO (fun y hy => SV.out.2.2.1 y (List.mem_of_mem_take ((HMM.out y).1 hy)))
        have HSR := Lib.hid hsr
        clear hsr hO hk hl
        obtain ⟨wR, rfl⟩ : ∃ W, W = wr := ⟨_, rfl⟩
        obtain ⟨n, rfl⟩ : ∃ n, n = i := ⟨_, rfl⟩
        obtain ⟨R, rfl⟩ : ∃ R, R = l := ⟨_, rfl⟩
        have hmk := mk_ints wR N (by omega)
        have hszR := HK.out.size
        have hsz2 := K2.out.size
        obtain ⟨gs, hgs⟩ : ∃ gs, wR.heap.size = gs := ⟨_, rfl⟩
        have hgsw : w2.heap.size ≤ gs := by omega
        have HGS : Hid (w.heap.size ≤ gs ∧ p ≠ gs ∧ by_ ≠ gs ∧ bn ≠ gs) := Lib.hid ⟨by omega, by have := HLT.out; omega, by have := HLT.out; omega, by have := HLT.out; omega⟩
        have HAO : Hid (∀ a, ao = some a → ¬ FV3 by_ bn gs a.block) := Lib.hid fun a ha f => by
          subst ha
          have h1 := HNEW.out a.block rfl
          have h2 := HLT.out
          have h3 : a.block < wR.heap.size := row_block_lt HO.out rfl
          rcases f with f | f | f <;> omega
        have hSD : SD (wR.alloc (.cells (Array.replicate N (Value.int .i64 0)) 3 (0, 0))) gs (R.map (stI (fun _ => false) [])) := by
          have := heap_new wR (.cells (Array.replicate N (Value.int .i64 0)) 3 (0, 0))
          rw [hgs] at this
          have e : R.map (stI (fun _ => false) []) = List.replicate N (0 : Int) := by
            rw [← HL.out, List.eq_replicate_iff]
            refine ⟨by simp, fun b hb => ?_⟩
            obtain ⟨x, _, rfl⟩ := List.mem_map.1 hb
            simp [stI]
          unfold SD
          rw [e, List.map_replicate, this]
          simp
        have HSD := Lib.hid hSD
        have kAl := (Keep.refl NoF wR).alloc (.cells (Array.replicate N (Value.int .i64 0)) 3 (0, 0))
        have HB3 := Lib.hid (HB.out.keep (HK.out.trans' kAl))
        have HKW0 := Lib.hid (K2.out.trans' (HK.out.trans' kAl))
        have HKR0 := Lib.hid (kAl.mono (H := FV3 by_ bn gs) (fun _ _ f => f.elim))
        clear kAl hSD HB HNEW hszR hsz2 hgsw hlt2
        rw [hgs] at hmk
        have HNW := Lib.hid hgs
        clear hgs
        go_wp2_with fail
        clear hmk
        go_loopw [11] (fun iv wr => ∃ i : Nat, i ≤ 40 ∧ i ≤ len1 ∧ iv = .int .i64 i ∧ StR w wR gs p by_ bn kb R i wr) (fun iv _ => len1 + 1 - (intOf iv).toNat)
        case atStart => exact ⟨0, by omega, Nat.zero_le _, rfl, _, _, HB3.out, by simp, HSD.out, HKW0.out, HKR0.out⟩
        case round =>
          obtain ⟨i, hi40, hi1, rfl, yes, ns, hB, hns, hS, hKw, hKr⟩ := hrel
          have HBL := Lib.hid hB; have HNS := Lib.hid hns; have HS := Lib.hid hS; have HKW := Lib.hid hKw; have HKR := Lib.hid hKr
          clear hB hns hS hKw hKr HB3 HSD HKW0 HKR0
          have hi2 : (i : Int) ≤ 40 := by omega
          have hi3 : (i : Int) ≤ len1 := by omega
          obtain ⟨wB, rfl⟩ : ∃ W, W = wr := ⟨_, rfl⟩
          have HRB := Lib.hid (HSR.out.keep HKR.out HAO.out)
          go_wp2_with fail
          go_loopw [13, 14] (fun mv jv wq => ∃ (j M : Nat) (am : Option Addr) (cm : Nat), j ≤ N ∧ M ≤ j ∧ jv = .int .i64 j ∧ mv = .slice am M cm ∧ ((R.take j).filter (fun x => stI yes ns x == 0)).length = M ∧ wq.ownsRow 0 3 1 (.slice am M cm) M (((R.take j).filter (fun x => stI yes ns x == 0)).map (.int .i64)) ∧ Keep NoF wB wq ∧ (∀ g, (Value.slice am M cm).ownBlock = some g → wB.heap.size ≤ g)) (fun _ jv _ => N - (intOf jv).toNat)
          case atStart => exact ⟨0, 0, none, 0, Nat.zero_le _, Nat.le_refl _, rfl, rfl, by simp, World.ownsRow_nil _ _ _ _, Keep.refl _ _, nofun⟩
          case round =>
            obtain ⟨j, M, am, cm, hj, hMj, rfl, rfl, hfl, hO, hk, hnew⟩ := hrel
            have HOM := Lib.hid hO; have HKQ := Lib.hid hk; have HNM := Lib.hid hnew; have HFL := Lib.hid hfl
            clear hO hk hnew hfl
            by_cases hlt : j < N
            · have hlt2 : (j : Int) < N := by omega
              have hlt3 : decide (N ≤ j) = false := by simp; omega
              have hjR : j < R.length := by rw [HL.out]; exact hlt
              have ds := (HS.out.keep HKQ.out (fun f => f)).cell j (by rw [List.length_map]; exact hjR)
              rw [List.getElem_map] at ds
              have HTK : Hid (R.take (j + 1) = R.take j ++ [R[j]]) := Lib.hid (List.take_succ_eq_append_getElem hjR)
              obtain ⟨gr, or, hao, dr⟩ := (HRB.out.keep HKQ.out (fun _ _ f => f)).2.2.2 j hjR
              generalize R[j] = x at ds dr HTK
              subst hao
              obtain ⟨sx, hsx⟩ : ∃ sx, stI yes ns x = sx := ⟨_, rfl⟩
              rw [hsx] at ds
              by_cases h0 : sx = 0
              · subst h0
                have HF2 : Hid ((R.take (j + 1)).filter (fun x => stI yes ns x == 0) = (R.take j).filter (fun x => stI yes ns x == 0) ++ [x]) := Lib.hid (by rw [HTK.out, List.filter_append]; simp [hsx])
                clear hsx
                go_wp2_with (at_builtin; refine wpList_app 22 22 3 (.int .i64 0) 1 8 Try.underlying22 infoI64 rfl (by decide) (by decide) rfl rfl rfl rfl (HOM.out.alloc _) (Src.one Try.underlying22 (heap_new wr _) rfl 1) (by omega) ?_)
                intro a9 c9 w9 hown hgr hfr
                have hO9 : w9.ownsRow 0 3 1 (.slice a9 (M + 1) c9) (M + 1) (((R.take (j + 1)).filter (fun x => stI yes ns x == 0)).map (.int .i64)) := by rw [HF2.out, List.map_append]; exact hown
                have hk9 : Keep NoF wB w9 := (HKQ.out.alloc _).grown hgr (fun k hk e => by have := HNM.out k e; omega)
                have hn9 : ∀ g, (Value.slice a9 (M + 1) c9).ownBlock = some g → wB.heap.size ≤ g := fun g hg => by
                  rcases hfr with f | f
                  · exact HNM.out g (by rw [← f]; exact hg)
                  · rw [f] at hg; injection hg with hg; have := HKQ.out.size; omega
                have HO9 := Lib.hid hO9; have HK9 := Lib.hid hk9; have HN9 := Lib.hid hn9
                clear hown hgr hfr hO9 hk9 hn9 ds dr
                go_wp2_with fail
                go_roundw
                case rel => exact ⟨j + 1, M + 1, a9, c9, by omega, by omega, by go_num, rfl, by rw [HF2.out, List.length_append, HFL.out]; rfl, HO9.out, HK9.out, HN9.out⟩
                case measure => simp [intOf]; omega
              · have HF2 : Hid ((R.take (j + 1)).filter (fun x => stI yes ns x == 0) = (R.take j).filter (fun x => stI yes ns x == 0)) := Lib.hid (by rw [HTK.out, List.filter_append]; simp [hsx, h0])
                clear hsx
                go_wp2_with fail
                go_roundw
                case rel => exact ⟨j + 1, M, am, cm, by omega, by omega, by go_num, rfl, by rw [HF2.out, HFL.out], by rw [HF2.out]; exact HOM.out, HKQ.out, HNM.out⟩
                case measure => simp [intOf]; omega
            · have hlt2 : ¬ (j : Int) < N := by omega
              obtain rfl : j = N := by omega
              obtain ⟨N, rfl⟩ : ∃ N, N = j := ⟨_, rfl⟩
              have htkR : R.take N = R := List.take_of_length_le (by rw [HL.out]; exact Nat.le_refl _)
              have hmd := missD_st (yes := yes) (ns := ns) HR.out
              have HMR : Hid (missD kb yes ns = R.filter fun x => stI yes ns x == 0) := Lib.hid hmd
              have hml : (missD kb yes ns).length = M := by rw [hmd, ← HFL.out, htkR]
              have hmO : wr.ownsRow 0 3 1 (.slice am M cm) M ((missD kb yes ns).map (.int .i64)) := by rw [hmd]; have := HOM.out; rw [htkR] at this; exact this
              have hRwf : ∀ x ∈ R, (Lit.int .i64 x).wf = true := HSR.out.2.2.1
              have hMS : SlI wr am cm (missD kb yes ns) := row_sliB hml hmO (fun x hx => hRwf x (by rw [hmd] at hx; exact (List.mem_filter.1 hx).1))
              have HMS := Lib.hid hMS; have HML := Lib.hid hml
              obtain ⟨h0, hh0⟩ : ∃ h0 : Int, (if M = 0 then (1 : Int) else 0) = h0 := ⟨_, rfl⟩
              have HH : Hid (howD kb yes ns = if R.any (fun x => stI yes ns x == 2) then 2 else h0) := Lib.hid (by
                have hiff : missD kb yes ns = [] ↔ M = 0 := by rw [← List.length_eq_zero_iff, hml]
                rw [howD_st HR.out HNS.out, ← hh0]
                simp only [hiff])
              clear hmd hml hmO hRwf hMS htkR HOM HNM HFL
              obtain ⟨wz, rfl⟩ : ∃ W, W = wr := ⟨_, rfl⟩
              have HKZ := Lib.hid (HKW.out.trans' HKQ.out)
              have hc : (M = 0 ∧ h0 = 1) ∨ (¬ M = 0 ∧ h0 = 0) := by
                rw [← hh0]
                by_cases hM : M = 0
                · exact .inl ⟨hM, if_pos hM⟩
                · exact .inr ⟨hM, if_neg hM⟩
              clear hh0
              have hM2 : (M = 0 → ¬ 0 < (M : Int)) ∧ (¬ M = 0 → 0 < (M : Int)) := ⟨fun h => by omega, fun h => by omega⟩
              have HM2 := Lib.hid hM2
              clear hM2
              rcases hc with ⟨hM, rfl⟩ | ⟨hM, rfl⟩
              · have hM3 := HM2.out.1 hM
                clear HM2 hM
                go_wp2_with fail
                go_loopw [12, 15] (fun hv jv wq => ∃ (j : Nat) (h0 : Int), j ≤ N ∧ jv = .int .i64 j ∧ hv = .int .i64 (if (R.take j).any (fun x => stI yes ns x == 2) then 2 else h0) ∧ (howD kb yes ns = if R.any (fun x => stI yes ns x == 2) then 2 else h0) ∧ Keep NoF wz wq) (fun _ jv _ => N - (intOf jv).toNat)
                case atStart => exact ⟨0, _, Nat.zero_le _, rfl, by simp, HH.out, Keep.refl _ _⟩
                case round =>
                  obtain ⟨j, h0, hj, rfl, rfl, hh, hk⟩ := hrel
                  clear HH
                  have HH := Lib.hid hh; have HKJ := Lib.hid hk
                  clear hh hk
                  by_cases hlt : j < N
                  · have hlt2 : (j : Int) < N := by omega
                    have hlt3 : decide (N ≤ j) = false := by simp; omega
                    have hjR : j < R.length := by rw [HL.out]; exact hlt
                    have ds := (HS.out.keep (HKQ.out.trans' HKJ.out) (fun f => f)).cell j (by rw [List.length_map]; exact hjR)
                    rw [List.getElem_map] at ds
                    have HTK : Hid (R.take (j + 1) = R.take j ++ [R[j]]) := Lib.hid (List.take_succ_eq_append_getElem hjR)
                    generalize R[j] = x at ds HTK
                    obtain ⟨sx, hsx⟩ : ∃ sx, stI yes ns x = sx := ⟨_, rfl⟩
                    rw [hsx] at ds
                    have HTA : Hid ((R.take (j + 1)).any (fun x => stI yes ns x == 2) = ((R.take j).any (fun x => stI yes ns x == 2) || sx == 2)) := Lib.hid (by rw [HTK.out, List.any_append]; simp [hsx])
                    clear hsx
                    generalize (R.take j).any (fun x => stI yes ns x == 2) = bb at HTA ⊢
                    by_cases h2 : sx = 2
                    · subst h2
                      go_wp2_with fail
                      go_roundw
                      case rel => exact ⟨j + 1, h0, by omega, by go_num, by rw [HTA.out]; simp, HH.out, HKJ.out⟩
                      case measure => simp [intOf]; omega
                    · have h3 : (sx == 2) = false := by simp [h2]
                      go_wp2_with fail
                      go_roundw
                      case rel => exact ⟨j + 1, h0, by omega, by go_num, by rw [HTA.out, h3]; simp, HH.out, HKJ.out⟩
                      case measure => simp [intOf]; omega
                  · have hlt2 : ¬ (j : Int) < N := by omega
                    obtain rfl : j = N := by omega
                    obtain ⟨N, rfl⟩ : ∃ N, N = j := ⟨_, rfl⟩
                    have htkR : R.take N = R := List.take_of_length_le (by rw [HL.out]; exact Nat.le_refl _)
                    rw [htkR, ← HH.out]
                    clear htkR
                    obtain ⟨hd, hhd⟩ : ∃ h, howD kb yes ns = h := ⟨_, rfl⟩
                    rw [hhd]
                    have hcH := fun W hW => how_any p by_ bn (1000 + i) kb yes ns W hW (by omega)
                    rw [hhd] at hcH
                    have hcM := fun W hW => missing_any p by_ bn (1000 + i) kb yes ns W hW (by omega)
                    rw [HML.out] at hcM
                    have hcV := fun W hW => voters_any p by_ bn (1000 + i) kb yes ns W hW (by omega)
                    rw [HR.out, HL.out] at hcV
                    have HCH := Lib.hid hcH; have HCM := Lib.hid hcM; have HCV := Lib.hid hcV
                    have HB4 := Lib.hid (HBL.out.keep (HKQ.out.trans' HKJ.out))
                    have hne : (hd != hd) = false := by simp
                    have HMW : Hid (∀ x ∈ missD kb yes ns, (Lit.int .i64 x).wf = true) := Lib.hid HMS.out.2.2.1
                    clear hcH hcM hcV hhd HH
                    go_wp2_with fail
                    refine (HCH.out wr HB4.out).mono ?_
                    rintro e w5 ⟨rfl, hk5⟩
                    have K5 := Lib.hid (HKJ.out.trans' hk5); have HB5 := Lib.hid (HB4.out.keep hk5)
                    clear hk5
                    go_wp2_with fail
                    refine (HCM.out w5 HB5.out).mono ?_
                    rintro e w6 ⟨v, rfl, hrow, hk6, _⟩
                    obtain ⟨a5, c5, rfl⟩ := row_slice hrow
                    have K6 := Lib.hid (K5.out.trans' hk6); have HB6 := Lib.hid (HB5.out.keep hk6)
                    have hq := eq_any a5 am c5 cm (missD kb yes ns) (missD kb yes ns) M M HML.out HML.out w6 (row_sliB HML.out hrow HMW.out) (HMS.out.keep K6.out (fun _ _ f => f)) ⟨by omega, by omega⟩
                    rw [decide_eq_true rfl] at hq
                    have HQ := Lib.hid hq
                    clear hrow hk6 hq
                    go_wp2_with fail
                    refine HQ.out.mono ?_
                    rintro e w7 ⟨rfl, hk7⟩
                    have K7 := Lib.hid (K6.out.trans' hk7); have HB7 := Lib.hid (HB6.out.keep hk7)
                    clear hk7 HQ
                    go_wp2_with fail
                    refine (HCV.out w7 HB7.out).mono ?_
                    rintro e w8 ⟨v, rfl, hrow, _, hk8⟩
                    obtain ⟨a6, c6, rfl⟩ := row_slice hrow
                    have K8 := Lib.hid (K7.out.trans' hk8); have HB8 := Lib.hid (HB7.out.keep hk8)
                    have hq := eq_any a6 ao c6 cp R R N N HL.out HL.out w8 (row_sliB HL.out hrow HRB.out.2.2.1) (HRB.out.keep (HKQ.out.trans' K8.out) (fun _ _ f => f)) ⟨by omega, by omega⟩
                    rw [decide_eq_true rfl] at hq
                    have HQ := Lib.hid hq
                    clear hrow hk8 hq
                    go_wp2_with fail
                    refine HQ.out.mono ?_
                    rintro e wy ⟨rfl, hk9⟩
                    have HKY := Lib.hid (HKZ.out.trans' (K8.out.trans' hk9)); have HBY := Lib.hid (HB8.out.keep hk9)
                    have HKBY := Lib.hid (HKQ.out.trans' (K8.out.trans' hk9))
                    clear hk9 HQ HB4 HB5 HB6 HB7 HB8 K5 K6 K7 K8 HCH HCM HCV
                    have hcase : (i = len1) ∨ (¬ i = len1 ∧ i = 40) ∨ (¬ i = len1 ∧ ¬ i = 40) := by omega
                    rcases hcase with he | ⟨he, he2⟩ | ⟨he, he2⟩
                    · have hb1 : ((i : Int) == len1) = true := by simp [he]
                      clear he
                      go_wp2_with fail
                      go_ret
                      exact ⟨rfl, HKY.out⟩
                    · have hb1 : ((i : Int) == len1) = false := by simp; omega
                      have hb2 : ((i : Int) == 40) = true := by simp; omega
                      clear he he2
                      go_wp2_with fail
                      go_ret
                      exact ⟨rfl, HKY.out⟩
                    · have hb1 : ((i : Int) == len1) = false := by simp; omega
                      have hb2 : ((i : Int) == 40) = false := by simp; omega
                      have hil : i < len1 := by omega
                      have hi41 : i < 40 := by omega
                      have hil2 : (i : Int) < len1 := by omega
                      have hil3 : decide (len1 ≤ i) = false := by simp; omega
                      clear he he2
                      obtain ⟨hwf, gz, oz, e, D0, D1⟩ := HZ.out.2.2 i hil
                      subst e
                      obtain ⟨who, hwho⟩ : ∃ x, (z i).who = x := ⟨_, rfl⟩
                      obtain ⟨y, hy⟩ : ∃ x, (z i).yes = x := ⟨_, rfl⟩
                      rw [hwho] at hwf D0
                      rw [hy] at D1
                      have HW1 : Hid (∀ W, Keep NoF w W → W.cell? ⟨gz, oz + i * 2, none⟩ = some (.int .i64 who)) := Lib.hid fun W hW => hW.cell' D0 (fun f => f)
                      have HW2 : Hid (∀ W, Keep NoF w W → W.cell? ⟨gz, oz + i * 2 + 1, none⟩ = some (.bool y)) := Lib.hid fun W hW => hW.cell' D1 (fun f => f)
                      have hv := fun W hW => vote_any p by_ bn (1000 + i) kb yes ns who hwf y W hW (by omega)
                      have HV := Lib.hid hv
                      clear hv hwho hy D0 D1 hwf
                      go_wp2_with fail
                      refine wp_region_noPanic ?_
                      refine wp_region_held_drew (S := fun W' : World => W'.cell? ⟨gz, oz + i * 2, none⟩ = some (.int .i64 who) ∧ W'.cell? ⟨gz, oz + i * 2 + 1, none⟩ = some (.bool y)) (by kernel_rfl) (⟨HW1.out _ HKY.out.drew, HW2.out _ HKY.out.drew⟩) (fun hHeld => ?_)
                      refine wpAnyH_take (i := 0) (oi := ?oVa0) (v := ?vVa0) ?hiVa0 (by kernel_rfl) (by kernel_rfl) (by kernel_rfl) (fun _ _ _ h => h) (Or.inl ⟨?wVa0, ?yVa0⟩) (by assumption) ?rVa0
                      case hiVa0 => (simp only [List.getElem?_toArray, List.getElem?_cons_zero]; try rfl)
                      case wVa0 => rfl
                      case yVa0 => (intro w hSw; obtain ⟨hSa, hSb⟩ := hSw; go_simp; (try with_reducible rfl))
                      (try simp only [Act.put, List.setIfInBounds_toArray, List.set_cons_zero, List.set_cons_succ])
                      refine wpAnyH_take (i := 1) (oi := ?oVa1) (v := ?vVa1) ?hiVa1 (by kernel_rfl) (by kernel_rfl) (by kernel_rfl) (fun _ _ _ h => h) (Or.inl ⟨?wVa1, ?yVa1⟩) (by assumption) ?rVa1
                      case hiVa1 => (simp only [List.getElem?_toArray, List.getElem?_cons_succ, List.getElem?_cons_zero]; try rfl)
                      case wVa1 => rfl
                      case yVa1 => (intro w hSw; obtain ⟨hSa, hSb⟩ := hSw; go_simp; (try with_reducible rfl))
                      (try simp only [Act.put, List.setIfInBounds_toArray, List.set_cons_zero, List.set_cons_succ])
                      refine wpAnyH_take (i := 2) (oi := ?oVa2) (v := ?vVa2) ?hiVa2 (by kernel_rfl) (by kernel_rfl) (by kernel_rfl) (fun _ _ _ h => h) (Or.inl ⟨?wVa2, ?yVa2⟩) (by assumption) ?rVa2
                      case hiVa2 => (simp only [List.getElem?_toArray, List.getElem?_cons_succ, List.getElem?_cons_zero]; try rfl)
                      case wVa2 => rfl
                      case yVa2 => (intro w hSw; obtain ⟨hSa, hSb⟩ := hSw; go_simp; (try with_reducible rfl))
                      (try simp only [Act.put, List.setIfInBounds_toArray, List.set_cons_zero, List.set_cons_succ])
                      refine wpAnyH_take (i := 3) (oi := ?oVa3) (v := ?vVa3) ?hiVa3 (by kernel_rfl) (by kernel_rfl) (by kernel_rfl) (fun _ _ _ h => h) (Or.inl ⟨?wVa3, ?yVa3⟩) (by assumption) ?rVa3
                      case hiVa3 => (simp only [List.getElem?_toArray, List.getElem?_cons_succ, List.getElem?_cons_zero]; try rfl)
                      case wVa3 => rfl
                      case yVa3 => (intro w hSw; obtain ⟨hSa, hSb⟩ := hSw; go_simp; (try with_reducible rfl))
                      (try simp only [Act.put, List.setIfInBounds_toArray, List.set_cons_zero, List.set_cons_succ])
                      refine wpAnyH_take (i := 4) (oi := ?oVa4) (v := ?vVa4) ?hiVa4 (by kernel_rfl) (by kernel_rfl) (by kernel_rfl) (fun _ _ _ h => h) (Or.inl ⟨?wVa4, ?yVa4⟩) (by assumption) ?rVa4
                      case hiVa4 => (simp only [List.getElem?_toArray, List.getElem?_cons_succ, List.getElem?_cons_zero]; try rfl)
                      case wVa4 => rfl
                      case yVa4 => (intro w hSw; obtain ⟨hSa, hSb⟩ := hSw; go_simp; (try with_reducible rfl))
                      (try simp only [Act.put, List.setIfInBounds_toArray, List.set_cons_zero, List.set_cons_succ])
                      refine wpAnyH_take (i := 5) (oi := ?oVa5) (v := ?vVa5) ?hiVa5 (by kernel_rfl) (by kernel_rfl) (by kernel_rfl) (fun _ _ _ h => h) (Or.inl ⟨?wVa5, ?yVa5⟩) (by assumption) ?rVa5
                      case hiVa5 => (simp only [List.getElem?_toArray, List.getElem?_cons_succ, List.getElem?_cons_zero]; try rfl)
                      case wVa5 => rfl
                      case yVa5 => (intro w hSw; obtain ⟨hSa, hSb⟩ := hSw; go_simp; (try with_reducible rfl))
                      (try simp only [Act.put, List.setIfInBounds_toArray, List.set_cons_zero, List.set_cons_succ])
                      refine wpAnyH_take (i := 6) (oi := ?oVa6) (v := ?vVa6) ?hiVa6 (by kernel_rfl) (by kernel_rfl) (by kernel_rfl) (fun _ _ _ h => h) (Or.inl ⟨?wVa6, ?yVa6⟩) (by assumption) ?rVa6
                      case hiVa6 => (simp only [List.getElem?_toArray, List.getElem?_cons_succ, List.getElem?_cons_zero]; try rfl)
                      case wVa6 => rfl
                      case yVa6 => (intro w hSw; obtain ⟨hSa, hSb⟩ := hSw; go_simp; (try with_reducible rfl))
                      (try simp only [Act.put, List.setIfInBounds_toArray, List.set_cons_zero, List.set_cons_succ])
                      refine wpAnyH_take (i := 7) (oi := ?oVa7) (v := ?vVa7) ?hiVa7 (by kernel_rfl) (by kernel_rfl) (by kernel_rfl) (fun _ _ _ h => h) (Or.inl ⟨?wVa7, ?yVa7⟩) (by assumption) ?rVa7
                      case hiVa7 => (simp only [List.getElem?_toArray, List.getElem?_cons_succ, List.getElem?_cons_zero]; try rfl)
                      case wVa7 => rfl
                      case yVa7 => (intro w hSw; obtain ⟨hSa, hSb⟩ := hSw; go_simp; (try with_reducible rfl))
                      (try simp only [Act.put, List.setIfInBounds_toArray, List.set_cons_zero, List.set_cons_succ])
                      refine wpAnyH_take (i := 8) (oi := ?oVa8) (v := ?vVa8) ?hiVa8 (by kernel_rfl) (by kernel_rfl) (by kernel_rfl) (fun _ _ _ h => h) (Or.inl ⟨?wVa8, ?yVa8⟩) (by assumption) ?rVa8
                      case hiVa8 => (simp only [List.getElem?_toArray, List.getElem?_cons_succ, List.getElem?_cons_zero]; try rfl)
                      case wVa8 => rfl
                      case yVa8 => (intro w hSw; obtain ⟨hSa, hSb⟩ := hSw; go_simp; (try with_reducible rfl))
                      (try simp only [Act.put, List.setIfInBounds_toArray, List.set_cons_zero, List.set_cons_succ])
                      refine wpAnyH_take (i := 9) (oi := ?oVa9) (v := ?vVa9) ?hiVa9 (by kernel_rfl) (by kernel_rfl) (by kernel_rfl) (fun _ _ _ h => h) (Or.inl ⟨?wVa9, ?yVa9⟩) (by assumption) ?rVa9
                      case hiVa9 => (simp only [List.getElem?_toArray, List.getElem?_cons_succ, List.getElem?_cons_zero]; try rfl)
                      case wVa9 => rfl
                      case yVa9 => (intro w hSw; obtain ⟨hSa, hSb⟩ := hSw; go_simp; (try with_reducible rfl))
                      (try simp only [Act.put, List.setIfInBounds_toArray, List.set_cons_zero, List.set_cons_succ])
                      refine wpAnyH_take (i := 10) (oi := ?oVa10) (v := ?vVa10) ?hiVa10 (by kernel_rfl) (by kernel_rfl) (by kernel_rfl) (fun _ _ _ h => h) (Or.inl ⟨?wVa10, ?yVa10⟩) (by assumption) ?rVa10
                      case hiVa10 => (simp only [List.getElem?_toArray, List.getElem?_cons_succ, List.getElem?_cons_zero]; try rfl)
                      case wVa10 => rfl
                      case yVa10 => (intro w hSw; obtain ⟨hSa, hSb⟩ := hSw; go_simp; (try with_reducible rfl))
                      (try simp only [Act.put, List.setIfInBounds_toArray, List.set_cons_zero, List.set_cons_succ])
                      refine wpAnyH_ready (rs := [11]) (by kernel_rfl) (by simp) ?_
                      refine AllReadyH.cons (o := ?oVa11) ?hiVa11 (fun K hK => ?_) AllReadyH.nil
                      case hiVa11 => (simp only [List.getElem?_toArray, List.getElem?_cons_succ, List.getElem?_cons_zero]; try rfl)
                      go_simp
                      (go_at_call 14; refine (HV.out _ (HBY.out.keep (Keep.refl NoF wy).drew)).mono ?_; rintro e w8 ⟨rfl, hB8, hk8⟩; have HB8 := Lib.hid hB8; have K8 := Lib.hid (hk8.of_drew : Keep (VF by_ bn) wy w8); have HKW8 := Lib.hid (HKY.out.trans K8.out (fun _ _ f => f) (fun j hj f => by have := HF.out; rcases f with f | f <;> omega)); clear hB8 hk8)
                      go_wp2_with fail
                      refine hK.out _ _ (⟨HW1.out _ HKW8.out, HW2.out _ HKW8.out⟩) (fun hHeld => ?_)
                      clear hK K
                      (try simp only [Act.put, List.setIfInBounds_toArray, List.set_cons_zero, List.set_cons_succ])
                      refine wpAnyH_done (by kernel_rfl) ?_ _
                      refine NoPanic.normal ?_
                      go_wp2_with fail
                      have hGN : ¬ VF by_ bn gs := fun f => by have := HGS.out; rcases f with f | f <;> omega
                      have HS8 := Lib.hid ((HS.out.keep HKBY.out (fun f => f)).keep K8.out hGN)
                      have HK8R := Lib.hid ((HKR.out.trans HKBY.out (fun _ _ f => f) (fun _ _ f => f.elim)).trans K8.out (fun _ _ f => f) (fun j hj f => f.elim .inl (fun f => .inr (.inl f))) : Keep (FV3 by_ bn gs) wR w8)
                      have HB9 := Lib.hid HB8.out
                      clear HS HBL HBY HKY HKBY hGN HKZ K8 HV HB8 hHeld
                      go_loopw [16] (fun jv wq => ∃ j : Nat, j ≤ N ∧ jv = .int .i64 j ∧ SD wq gs (midL R (stI yes ns) (stI (yesV kb yes ns who y) (noV kb ns who y)) j) ∧ Keep (fun k => k = gs) w8 wq) (fun jv _ => N - (intOf jv).toNat)
                      case atStart => exact ⟨0, Nat.zero_le _, rfl, by rw [midL_zero]; exact HS8.out, Keep.refl _ _⟩
                      case round =>
                        obtain ⟨j, hj, rfl, hS, hk⟩ := hrel
                        have HS := Lib.hid hS; have HK9 := Lib.hid hk
                        clear hS hk
                        by_cases hlt : j < N
                        · have hlt2 : (j : Int) < N := by omega
                          have hlt3 : decide (N ≤ j) = false := by simp; omega
                          have hjR : j < R.length := by rw [HL.out]; exact hlt
                          have ds := HS.out.cell j (by rw [midL_length]; exact hjR)
                          rw [midL_at hjR] at ds
                          have hfz : wr.frozen? ⟨gs, j, none⟩ = false := free_of_heap HS.out j
                          have HW1' := HW1.out wr (HKW8.out.trans HK9.out (fun _ _ f => f) (fun k hk f => by have := HGS.out; subst f; omega))
                          have HW2' := HW2.out wr (HKW8.out.trans HK9.out (fun _ _ f => f) (fun k hk f => by have := HGS.out; subst f; omega))
                          have hxk : R[j] ∈ kb := mem_sortD.1 (by rw [HR.out]; exact List.getElem_mem _)
                          have hvt := stI_vote (yes := yes) (ns := ns) (who := who) y hxk
                          obtain ⟨gr, or, hao, dr⟩ := (HSR.out.keep (HK8R.out.trans HK9.out (fun _ _ f => f) (fun k hk f => .inr (.inr f))) HAO.out).2.2.2 j hjR
                          have HMID : Hid ((stI (yesV kb yes ns who y) (noV kb ns who y) R[j] = stI yes ns R[j] → SD wr gs (midL R (stI yes ns) (stI (yesV kb yes ns who y) (noV kb ns who y)) (j + 1))) ∧ ∀ W v, v = stI (yesV kb yes ns who y) (noV kb ns who y) R[j] → SD W gs (midL R (stI yes ns) (stI (yesV kb yes ns who y) (noV kb ns who y)) j) → SD (W.setCell ⟨gs, j, none⟩ (.int .i64 v)) gs (midL R (stI yes ns) (stI (yesV kb yes ns who y) (noV kb ns who y)) (j + 1))) :=
                            Lib.hid ⟨fun e => by rw [← midL_same hjR e]; exact HS.out, fun W v hv hW => by rw [← midL_set hjR, ← hv]; exact hW.set j v⟩
                          generalize stI (yesV kb yes ns who y) (noV kb ns who y) R[j] = s2 at hvt HMID
                          generalize stI yes ns R[j] = s1 at ds hvt HMID
                          generalize R[j] = x at dr hvt
                          subst hao
                          clear hxk
                          by_cases hxw : x = who
                          · subst hxw
                            rw [if_pos rfl] at hvt
                            have hbx : (x == x) = true := by simp
                            cases y
                            · rw [if_pos rfl] at hvt
                              have HVT := Lib.hid hvt
                              clear hvt
                              go_wp2_with fail
                              go_quiet (fail)
                              go_wp2_with fail
                              go_roundw
                              case rel => exact ⟨j + 1, by omega, by go_num, (HMID.out.2 _ 2 HVT.out.symm (HS.out.keep ((Keep.refl NoF wr).drewN _) (fun f => f))), (HK9.out.drewN _).setCell (fun _ => rfl) _⟩
                              case measure => simp [intOf]; omega
                            · rw [if_neg (by simp)] at hvt
                              by_cases hs0 : s1 = 0
                              · subst hs0
                                rw [if_pos rfl] at hvt
                                have HVT := Lib.hid hvt
                                clear hvt
                                go_wp2_with fail
                                go_quiet (fail)
                                go_wp2_with fail
                                go_quiet (fail)
                                go_wp2_with fail
                                go_roundw
                                case rel => exact ⟨j + 1, by omega, by go_num, (HMID.out.2 _ 1 HVT.out.symm (HS.out.keep ((Keep.refl NoF wr).drewN _) (fun f => f))), (HK9.out.drewN _).setCell (fun _ => rfl) _⟩
                                case measure => simp [intOf]; omega
                              · rw [if_neg hs0] at hvt
                                have hbs : (s1 == 0) = false := by simp [hs0]
                                have HVT := Lib.hid hvt
                                clear hvt
                                go_wp2_with fail
                                go_quiet (fail)
                                go_wp2_with fail
                                go_quiet (fail)
                                go_wp2_with fail
                                go_roundw
                                case rel => exact ⟨j + 1, by omega, by go_num, (HMID.out.1 HVT.out).keep ((Keep.refl NoF wr).drewN _) (fun f => f), HK9.out.drewN _⟩
                                case measure => simp [intOf]; omega
                          · rw [if_neg hxw] at hvt
                            have hbx : (x == who) = false := by simp [hxw]
                            have HVT := Lib.hid hvt
                            clear hvt
                            go_wp2_with fail
                            go_quiet (fail)
                            go_wp2_with fail
                            go_quiet (fail)
                            go_wp2_with fail
                            go_roundw
                            case rel => exact ⟨j + 1, by omega, by go_num, (HMID.out.1 HVT.out).keep ((Keep.refl NoF wr).drewN _) (fun f => f), HK9.out.drewN _⟩
                            case measure => simp [intOf]; omega
                        · have hlt2 : ¬ (j : Int) < N := by omega
                          obtain rfl : j = N := by omega
                          have hSL := HS.out
                          rw [← HL.out, midL_all] at hSL
                          have HS10 := Lib.hid hSL
                          have HGS2 := HGS.out
                          have HBX := Lib.hid (bal_keepF HB9.out HK9.out HGS2.2.1 HGS2.2.2.1 HGS2.2.2.2)
                          have HKX := Lib.hid (HKW8.out.trans HK9.out (fun _ _ f => f) (fun k hk f => by have := HGS2.1; subst f; omega) : Keep NoF w wr)
                          have HKY2 := Lib.hid (HK8R.out.trans HK9.out (fun _ _ f => f) (fun k hk f => .inr (.inr f)))
                          clear hSL HGS2
                          go_wp2_with fail
                          go_roundw
                          case rel => exact ⟨i + 1, by omega, by omega, by go_num, _, _, HBX.out.mono (by omega), noV_sub HNS.out who y, HS10.out, HKX.out, HKY2.out⟩
                          case measure => simp [intOf]; omega
              · have hM3 := HM2.out.2 hM
                clear HM2 hM
                go_wp2_with fail
                go_loopw [12, 15] (fun hv jv wq => ∃ (j : Nat) (h0 : Int), j ≤ N ∧ jv = .int .i64 j ∧ hv = .int .i64 (if (R.take j).any (fun x => stI yes ns x == 2) then 2 else h0) ∧ (howD kb yes ns = if R.any (fun x => stI yes ns x == 2) then 2 else h0) ∧ Keep NoF wz wq) (fun _ jv _ => N - (intOf jv).toNat)
                case atStart => exact ⟨0, _, Nat.zero_le _, rfl, by simp, HH.out, Keep.refl _ _⟩
                case round =>
                  obtain ⟨j, h0, hj, rfl, rfl, hh, hk⟩ := hrel
                  clear HH
                  have HH := Lib.hid hh; have HKJ := Lib.hid hk
                  clear hh hk
                  by_cases hlt : j < N
                  · have hlt2 : (j : Int) < N := by omega
                    have hlt3 : decide (N ≤ j) = false := by simp; omega
                    have hjR : j < R.length := by rw [HL.out]; exact hlt
                    have ds := (HS.out.keep (HKQ.out.trans' HKJ.out) (fun f => f)).cell j (by rw [List.length_map]; exact hjR)
                    rw [List.getElem_map] at ds
                    have HTK : Hid (R.take (j + 1) = R.take j ++ [R[j]]) := Lib.hid (List.take_succ_eq_append_getElem hjR)
                    generalize R[j] = x at ds HTK
                    obtain ⟨sx, hsx⟩ : ∃ sx, stI yes ns x = sx := ⟨_, rfl⟩
                    rw [hsx] at ds
                    have HTA : Hid ((R.take (j + 1)).any (fun x => stI yes ns x == 2) = ((R.take j).any (fun x => stI yes ns x == 2) || sx == 2)) := Lib.hid (by rw [HTK.out, List.any_append]; simp [hsx])
                    clear hsx
                    generalize (R.take j).any (fun x => stI yes ns x == 2) = bb at HTA ⊢
                    by_cases h2 : sx = 2
                    · subst h2
                      go_wp2_with fail
                      go_roundw
                      case rel => exact ⟨j + 1, h0, by omega, by go_num, by rw [HTA.out]; simp, HH.out, HKJ.out⟩
                      case measure => simp [intOf]; omega
                    · have h3 : (sx == 2) = false := by simp [h2]
                      go_wp2_with fail
                      go_roundw
                      case rel => exact ⟨j + 1, h0, by omega, by go_num, by rw [HTA.out, h3]; simp, HH.out, HKJ.out⟩
                      case measure => simp [intOf]; omega
                  · have hlt2 : ¬ (j : Int) < N := by omega
                    obtain rfl : j = N := by omega
                    obtain ⟨N, rfl⟩ : ∃ N, N = j := ⟨_, rfl⟩
                    have htkR : R.take N = R := List.take_of_length_le (by rw [HL.out]; exact Nat.le_refl _)
                    rw [htkR, ← HH.out]
                    clear htkR
                    obtain ⟨hd, hhd⟩ : ∃ h, howD kb yes ns = h := ⟨_, rfl⟩
                    rw [hhd]
                    have hcH := fun W hW => how_any p by_ bn (1000 + i) kb yes ns W hW (by omega)
                    rw [hhd] at hcH
                    have hcM := fun W hW => missing_any p by_ bn (1000 + i) kb yes ns W hW (by omega)
                    rw [HML.out] at hcM
                    have hcV := fun W hW => voters_any p by_ bn (1000 + i) kb yes ns W hW (by omega)
                    rw [HR.out, HL.out] at hcV
                    have HCH := Lib.hid hcH; have HCM := Lib.hid hcM; have HCV := Lib.hid hcV
                    have HB4 := Lib.hid (HBL.out.keep (HKQ.out.trans' HKJ.out))
                    have hne : (hd != hd) = false := by simp
                    have HMW : Hid (∀ x ∈ missD kb yes ns, (Lit.int .i64 x).wf = true) := Lib.hid HMS.out.2.2.1
                    clear hcH hcM hcV hhd HH
                    go_wp2_with fail
                    refine (HCH.out wr HB4.out).mono ?_
                    rintro e w5 ⟨rfl, hk5⟩
                    have K5 := Lib.hid (HKJ.out.trans' hk5); have HB5 := Lib.hid (HB4.out.keep hk5)
                    clear hk5
                    go_wp2_with fail
                    refine (HCM.out w5 HB5.out).mono ?_
                    rintro e w6 ⟨v, rfl, hrow, hk6, _⟩
                    obtain ⟨a5, c5, rfl⟩ := row_slice hrow
                    have K6 := Lib.hid (K5.out.trans' hk6); have HB6 := Lib.hid (HB5.out.keep hk6)
                    have hq := eq_any a5 am c5 cm (missD kb yes ns) (missD kb yes ns) M M HML.out HML.out w6 (row_sliB HML.out hrow HMW.out) (HMS.out.keep K6.out (fun _ _ f => f)) ⟨by omega, by omega⟩
                    rw [decide_eq_true rfl] at hq
                    have HQ := Lib.hid hq
                    clear hrow hk6 hq
                    go_wp2_with fail
                    refine HQ.out.mono ?_
                    rintro e w7 ⟨rfl, hk7⟩
                    have K7 := Lib.hid (K6.out.trans' hk7); have HB7 := Lib.hid (HB6.out.keep hk7)
                    clear hk7 HQ
                    go_wp2_with fail
                    refine (HCV.out w7 HB7.out).mono ?_
                    rintro e w8 ⟨v, rfl, hrow, _, hk8⟩
                    obtain ⟨a6, c6, rfl⟩ := row_slice hrow
                    have K8 := Lib.hid (K7.out.trans' hk8); have HB8 := Lib.hid (HB7.out.keep hk8)
                    have hq := eq_any a6 ao c6 cp R R N N HL.out HL.out w8 (row_sliB HL.out hrow HRB.out.2.2.1) (HRB.out.keep (HKQ.out.trans' K8.out) (fun _ _ f => f)) ⟨by omega, by omega⟩
                    rw [decide_eq_true rfl] at hq
                    have HQ := Lib.hid hq
                    clear hrow hk8 hq
                    go_wp2_with fail
                    refine HQ.out.mono ?_
                    rintro e wy ⟨rfl, hk9⟩
                    have HKY := Lib.hid (HKZ.out.trans' (K8.out.trans' hk9)); have HBY := Lib.hid (HB8.out.keep hk9)
                    have HKBY := Lib.hid (HKQ.out.trans' (K8.out.trans' hk9))
                    clear hk9 HQ HB4 HB5 HB6 HB7 HB8 K5 K6 K7 K8 HCH HCM HCV
                    have hcase : (i = len1) ∨ (¬ i = len1 ∧ i = 40) ∨ (¬ i = len1 ∧ ¬ i = 40) := by omega
                    rcases hcase with he | ⟨he, he2⟩ | ⟨he, he2⟩
                    · have hb1 : ((i : Int) == len1) = true := by simp [he]
                      clear he
                      go_wp2_with fail
                      go_ret
                      exact ⟨rfl, HKY.out⟩
                    · have hb1 : ((i : Int) == len1) = false := by simp; omega
                      have hb2 : ((i : Int) == 40) = true := by simp; omega
                      clear he he2
                      go_wp2_with fail
                      go_ret
                      exact ⟨rfl, HKY.out⟩
                    · have hb1 : ((i : Int) == len1) = false := by simp; omega
                      have hb2 : ((i : Int) == 40) = false := by simp; omega
                      have hil : i < len1 := by omega
                      have hi41 : i < 40 := by omega
                      have hil2 : (i : Int) < len1 := by omega
                      have hil3 : decide (len1 ≤ i) = false := by simp; omega
                      clear he he2
                      obtain ⟨hwf, gz, oz, e, D0, D1⟩ := HZ.out.2.2 i hil
                      subst e
                      obtain ⟨who, hwho⟩ : ∃ x, (z i).who = x := ⟨_, rfl⟩
                      obtain ⟨y, hy⟩ : ∃ x, (z i).yes = x := ⟨_, rfl⟩
                      rw [hwho] at hwf D0
                      rw [hy] at D1
                      have HW1 : Hid (∀ W, Keep NoF w W → W.cell? ⟨gz, oz + i * 2, none⟩ = some (.int .i64 who)) := Lib.hid fun W hW => hW.cell' D0 (fun f => f)
                      have HW2 : Hid (∀ W, Keep NoF w W → W.cell? ⟨gz, oz + i * 2 + 1, none⟩ = some (.bool y)) := Lib.hid fun W hW => hW.cell' D1 (fun f => f)
                      have hv := fun W hW => vote_any p by_ bn (1000 + i) kb yes ns who hwf y W hW (by omega)
                      have HV := Lib.hid hv
                      clear hv hwho hy D0 D1 hwf
                      go_wp2_with fail
                      refine wp_region_noPanic ?_
                      refine wp_region_held_drew (S := fun W' : World => W'.cell? ⟨gz, oz + i * 2, none⟩ = some (.int .i64 who) ∧ W'.cell? ⟨gz, oz + i * 2 + 1, none⟩ = some (.bool y)) (by kernel_rfl) (⟨HW1.out _ HKY.out.drew, HW2.out _ HKY.out.drew⟩) (fun hHeld => ?_)
                      refine wpAnyH_take (i := 0) (oi := ?oVb0) (v := ?vVb0) ?hiVb0 (by kernel_rfl) (by kernel_rfl) (by kernel_rfl) (fun _ _ _ h => h) (Or.inl ⟨?wVb0, ?yVb0⟩) (by assumption) ?rVb0
                      case hiVb0 => (simp only [List.getElem?_toArray, List.getElem?_cons_zero]; try rfl)
                      case wVb0 => rfl
                      case yVb0 => (intro w hSw; obtain ⟨hSa, hSb⟩ := hSw; go_simp; (try with_reducible rfl))
                      (try simp only [Act.put, List.setIfInBounds_toArray, List.set_cons_zero, List.set_cons_succ])
                      refine wpAnyH_take (i := 1) (oi := ?oVb1) (v := ?vVb1) ?hiVb1 (by kernel_rfl) (by kernel_rfl) (by kernel_rfl) (fun _ _ _ h => h) (Or.inl ⟨?wVb1, ?yVb1⟩) (by assumption) ?rVb1
                      case hiVb1 => (simp only [List.getElem?_toArray, List.getElem?_cons_succ, List.getElem?_cons_zero]; try rfl)
                      case wVb1 => rfl
                      case yVb1 => (intro w hSw; obtain ⟨hSa, hSb⟩ := hSw; go_simp; (try with_reducible rfl))
                      (try simp only [Act.put, List.setIfInBounds_toArray, List.set_cons_zero, List.set_cons_succ])
                      refine wpAnyH_take (i := 2) (oi := ?oVb2) (v := ?vVb2) ?hiVb2 (by kernel_rfl) (by kernel_rfl) (by kernel_rfl) (fun _ _ _ h => h) (Or.inl ⟨?wVb2, ?yVb2⟩) (by assumption) ?rVb2
                      case hiVb2 => (simp only [List.getElem?_toArray, List.getElem?_cons_succ, List.getElem?_cons_zero]; try rfl)
                      case wVb2 => rfl
                      case yVb2 => (intro w hSw; obtain ⟨hSa, hSb⟩ := hSw; go_simp; (try with_reducible rfl))
                      (try simp only [Act.put, List.setIfInBounds_toArray, List.set_cons_zero, List.set_cons_succ])
                      refine wpAnyH_take (i := 3) (oi := ?oVb3) (v := ?vVb3) ?hiVb3 (by kernel_rfl) (by kernel_rfl) (by kernel_rfl) (fun _ _ _ h => h) (Or.inl ⟨?wVb3, ?yVb3⟩) (by assumption) ?rVb3
                      case hiVb3 => (simp only [List.getElem?_toArray, List.getElem?_cons_succ, List.getElem?_cons_zero]; try rfl)
                      case wVb3 => rfl
                      case yVb3 => (intro w hSw; obtain ⟨hSa, hSb⟩ := hSw; go_simp; (try with_reducible rfl))
                      (try simp only [Act.put, List.setIfInBounds_toArray, List.set_cons_zero, List.set_cons_succ])
                      refine wpAnyH_take (i := 4) (oi := ?oVb4) (v := ?vVb4) ?hiVb4 (by kernel_rfl) (by kernel_rfl) (by kernel_rfl) (fun _ _ _ h => h) (Or.inl ⟨?wVb4, ?yVb4⟩) (by assumption) ?rVb4
                      case hiVb4 => (simp only [List.getElem?_toArray, List.getElem?_cons_succ, List.getElem?_cons_zero]; try rfl)
                      case wVb4 => rfl
                      case yVb4 => (intro w hSw; obtain ⟨hSa, hSb⟩ := hSw; go_simp; (try with_reducible rfl))
                      (try simp only [Act.put, List.setIfInBounds_toArray, List.set_cons_zero, List.set_cons_succ])
                      refine wpAnyH_take (i := 5) (oi := ?oVb5) (v := ?vVb5) ?hiVb5 (by kernel_rfl) (by kernel_rfl) (by kernel_rfl) (fun _ _ _ h => h) (Or.inl ⟨?wVb5, ?yVb5⟩) (by assumption) ?rVb5
                      case hiVb5 => (simp only [List.getElem?_toArray, List.getElem?_cons_succ, List.getElem?_cons_zero]; try rfl)
                      case wVb5 => rfl
                      case yVb5 => (intro w hSw; obtain ⟨hSa, hSb⟩ := hSw; go_simp; (try with_reducible rfl))
                      (try simp only [Act.put, List.setIfInBounds_toArray, List.set_cons_zero, List.set_cons_succ])
                      refine wpAnyH_take (i := 6) (oi := ?oVb6) (v := ?vVb6) ?hiVb6 (by kernel_rfl) (by kernel_rfl) (by kernel_rfl) (fun _ _ _ h => h) (Or.inl ⟨?wVb6, ?yVb6⟩) (by assumption) ?rVb6
                      case hiVb6 => (simp only [List.getElem?_toArray, List.getElem?_cons_succ, List.getElem?_cons_zero]; try rfl)
                      case wVb6 => rfl
                      case yVb6 => (intro w hSw; obtain ⟨hSa, hSb⟩ := hSw; go_simp; (try with_reducible rfl))
                      (try simp only [Act.put, List.setIfInBounds_toArray, List.set_cons_zero, List.set_cons_succ])
                      refine wpAnyH_take (i := 7) (oi := ?oVb7) (v := ?vVb7) ?hiVb7 (by kernel_rfl) (by kernel_rfl) (by kernel_rfl) (fun _ _ _ h => h) (Or.inl ⟨?wVb7, ?yVb7⟩) (by assumption) ?rVb7
                      case hiVb7 => (simp only [List.getElem?_toArray, List.getElem?_cons_succ, List.getElem?_cons_zero]; try rfl)
                      case wVb7 => rfl
                      case yVb7 => (intro w hSw; obtain ⟨hSa, hSb⟩ := hSw; go_simp; (try with_reducible rfl))
                      (try simp only [Act.put, List.setIfInBounds_toArray, List.set_cons_zero, List.set_cons_succ])
                      refine wpAnyH_take (i := 8) (oi := ?oVb8) (v := ?vVb8) ?hiVb8 (by kernel_rfl) (by kernel_rfl) (by kernel_rfl) (fun _ _ _ h => h) (Or.inl ⟨?wVb8, ?yVb8⟩) (by assumption) ?rVb8
                      case hiVb8 => (simp only [List.getElem?_toArray, List.getElem?_cons_succ, List.getElem?_cons_zero]; try rfl)
                      case wVb8 => rfl
                      case yVb8 => (intro w hSw; obtain ⟨hSa, hSb⟩ := hSw; go_simp; (try with_reducible rfl))
                      (try simp only [Act.put, List.setIfInBounds_toArray, List.set_cons_zero, List.set_cons_succ])
                      refine wpAnyH_take (i := 9) (oi := ?oVb9) (v := ?vVb9) ?hiVb9 (by kernel_rfl) (by kernel_rfl) (by kernel_rfl) (fun _ _ _ h => h) (Or.inl ⟨?wVb9, ?yVb9⟩) (by assumption) ?rVb9
                      case hiVb9 => (simp only [List.getElem?_toArray, List.getElem?_cons_succ, List.getElem?_cons_zero]; try rfl)
                      case wVb9 => rfl
                      case yVb9 => (intro w hSw; obtain ⟨hSa, hSb⟩ := hSw; go_simp; (try with_reducible rfl))
                      (try simp only [Act.put, List.setIfInBounds_toArray, List.set_cons_zero, List.set_cons_succ])
                      refine wpAnyH_take (i := 10) (oi := ?oVb10) (v := ?vVb10) ?hiVb10 (by kernel_rfl) (by kernel_rfl) (by kernel_rfl) (fun _ _ _ h => h) (Or.inl ⟨?wVb10, ?yVb10⟩) (by assumption) ?rVb10
                      case hiVb10 => (simp only [List.getElem?_toArray, List.getElem?_cons_succ, List.getElem?_cons_zero]; try rfl)
                      case wVb10 => rfl
                      case yVb10 => (intro w hSw; obtain ⟨hSa, hSb⟩ := hSw; go_simp; (try with_reducible rfl))
                      (try simp only [Act.put, List.setIfInBounds_toArray, List.set_cons_zero, List.set_cons_succ])
                      refine wpAnyH_ready (rs := [11]) (by kernel_rfl) (by simp) ?_
                      refine AllReadyH.cons (o := ?oVb11) ?hiVb11 (fun K hK => ?_) AllReadyH.nil
                      case hiVb11 => (simp only [List.getElem?_toArray, List.getElem?_cons_succ, List.getElem?_cons_zero]; try rfl)
                      go_simp
                      (go_at_call 14; refine (HV.out _ (HBY.out.keep (Keep.refl NoF wy).drew)).mono ?_; rintro e w8 ⟨rfl, hB8, hk8⟩; have HB8 := Lib.hid hB8; have K8 := Lib.hid (hk8.of_drew : Keep (VF by_ bn) wy w8); have HKW8 := Lib.hid (HKY.out.trans K8.out (fun _ _ f => f) (fun j hj f => by have := HF.out; rcases f with f | f <;> omega)); clear hB8 hk8)
                      go_wp2_with fail
                      refine hK.out _ _ (⟨HW1.out _ HKW8.out, HW2.out _ HKW8.out⟩) (fun hHeld => ?_)
                      clear hK K
                      (try simp only [Act.put, List.setIfInBounds_toArray, List.set_cons_zero, List.set_cons_succ])
                      refine wpAnyH_done (by kernel_rfl) ?_ _
                      refine NoPanic.normal ?_
                      go_wp2_with fail
                      have hGN : ¬ VF by_ bn gs := fun f => by have := HGS.out; rcases f with f | f <;> omega
                      have HS8 := Lib.hid ((HS.out.keep HKBY.out (fun f => f)).keep K8.out hGN)
                      have HK8R := Lib.hid ((HKR.out.trans HKBY.out (fun _ _ f => f) (fun _ _ f => f.elim)).trans K8.out (fun _ _ f => f) (fun j hj f => f.elim .inl (fun f => .inr (.inl f))) : Keep (FV3 by_ bn gs) wR w8)
                      have HB9 := Lib.hid HB8.out
                      clear HS HBL HBY HKY HKBY hGN HKZ K8 HV HB8 hHeld
                      go_loopw [16] (fun jv wq => ∃ j : Nat, j ≤ N ∧ jv = .int .i64 j ∧ SD wq gs (midL R (stI yes ns) (stI (yesV kb yes ns who y) (noV kb ns who y)) j) ∧ Keep (fun k => k = gs) w8 wq) (fun jv _ => N - (intOf jv).toNat)
                      case atStart => exact ⟨0, Nat.zero_le _, rfl, by rw [midL_zero]; exact HS8.out, Keep.refl _ _⟩
                      case round =>
                        obtain ⟨j, hj, rfl, hS, hk⟩ := hrel
                        have HS := Lib.hid hS; have HK9 := Lib.hid hk
                        clear hS hk
                        by_cases hlt : j < N
                        · have hlt2 : (j : Int) < N := by omega
                          have hlt3 : decide (N ≤ j) = false := by simp; omega
                          have hjR : j < R.length := by rw [HL.out]; exact hlt
                          have ds := HS.out.cell j (by rw [midL_length]; exact hjR)
                          rw [midL_at hjR] at ds
                          have hfz : wr.frozen? ⟨gs, j, none⟩ = false := free_of_heap HS.out j
                          have HW1' := HW1.out wr (HKW8.out.trans HK9.out (fun _ _ f => f) (fun k hk f => by have := HGS.out; subst f; omega))
                          have HW2' := HW2.out wr (HKW8.out.trans HK9.out (fun _ _ f => f) (fun k hk f => by have := HGS.out; subst f; omega))
                          have hxk : R[j] ∈ kb := mem_sortD.1 (by rw [HR.out]; exact List.getElem_mem _)
                          have hvt := stI_vote (yes := yes) (ns := ns) (who := who) y hxk
                          obtain ⟨gr, or, hao, dr⟩ := (HSR.out.keep (HK8R.out.trans HK9.out (fun _ _ f => f) (fun k hk f => .inr (.inr f))) HAO.out).2.2.2 j hjR
                          have HMID : Hid ((stI (yesV kb yes ns who y) (noV kb ns who y) R[j] = stI yes ns R[j] → SD wr gs (midL R (stI yes ns) (stI (yesV kb yes ns who y) (noV kb ns who y)) (j + 1))) ∧ ∀ W v, v = stI (yesV kb yes ns who y) (noV kb ns who y) R[j] → SD W gs (midL R (stI yes ns) (stI (yesV kb yes ns who y) (noV kb ns who y)) j) → SD (W.setCell ⟨gs, j, none⟩ (.int .i64 v)) gs (midL R (stI yes ns) (stI (yesV kb yes ns who y) (noV kb ns who y)) (j + 1))) :=
                            Lib.hid ⟨fun e => by rw [← midL_same hjR e]; exact HS.out, fun W v hv hW => by rw [← midL_set hjR, ← hv]; exact hW.set j v⟩
                          generalize stI (yesV kb yes ns who y) (noV kb ns who y) R[j] = s2 at hvt HMID
                          generalize stI yes ns R[j] = s1 at ds hvt HMID
                          generalize R[j] = x at dr hvt
                          subst hao
                          clear hxk
                          by_cases hxw : x = who
                          · subst hxw
                            rw [if_pos rfl] at hvt
                            have hbx : (x == x) = true := by simp
                            cases y
                            · rw [if_pos rfl] at hvt
                              have HVT := Lib.hid hvt
                              clear hvt
                              go_wp2_with fail
                              go_quiet (fail)
                              go_wp2_with fail
                              go_roundw
                              case rel => exact ⟨j + 1, by omega, by go_num, (HMID.out.2 _ 2 HVT.out.symm (HS.out.keep ((Keep.refl NoF wr).drewN _) (fun f => f))), (HK9.out.drewN _).setCell (fun _ => rfl) _⟩
                              case measure => simp [intOf]; omega
                            · rw [if_neg (by simp)] at hvt
                              by_cases hs0 : s1 = 0
                              · subst hs0
                                rw [if_pos rfl] at hvt
                                have HVT := Lib.hid hvt
                                clear hvt
                                go_wp2_with fail
                                go_quiet (fail)
                                go_wp2_with fail
                                go_quiet (fail)
                                go_wp2_with fail
                                go_roundw
                                case rel => exact ⟨j + 1, by omega, by go_num, (HMID.out.2 _ 1 HVT.out.symm (HS.out.keep ((Keep.refl NoF wr).drewN _) (fun f => f))), (HK9.out.drewN _).setCell (fun _ => rfl) _⟩
                                case measure => simp [intOf]; omega
                              · rw [if_neg hs0] at hvt
                                have hbs : (s1 == 0) = false := by simp [hs0]
                                have HVT := Lib.hid hvt
                                clear hvt
                                go_wp2_with fail
                                go_quiet (fail)
                                go_wp2_with fail
                                go_quiet (fail)
                                go_wp2_with fail
                                go_roundw
                                case rel => exact ⟨j + 1, by omega, by go_num, (HMID.out.1 HVT.out).keep ((Keep.refl NoF wr).drewN _) (fun f => f), HK9.out.drewN _⟩
                                case measure => simp [intOf]; omega
                          · rw [if_neg hxw] at hvt
                            have hbx : (x == who) = false := by simp [hxw]
                            have HVT := Lib.hid hvt
                            clear hvt
                            go_wp2_with fail
                            go_quiet (fail)
                            go_wp2_with fail
                            go_quiet (fail)
                            go_wp2_with fail
                            go_roundw
                            case rel => exact ⟨j + 1, by omega, by go_num, (HMID.out.1 HVT.out).keep ((Keep.refl NoF wr).drewN _) (fun f => f), HK9.out.drewN _⟩
                            case measure => simp [intOf]; omega
                        · have hlt2 : ¬ (j : Int) < N := by omega
                          obtain rfl : j = N := by omega
                          have hSL := HS.out
                          rw [← HL.out, midL_all] at hSL
                          have HS10 := Lib.hid hSL
                          have HGS2 := HGS.out
                          have HBX := Lib.hid (bal_keepF HB9.out HK9.out HGS2.2.1 HGS2.2.2.1 HGS2.2.2.2)
                          have HKX := Lib.hid (HKW8.out.trans HK9.out (fun _ _ f => f) (fun k hk f => by have := HGS2.1; subst f; omega) : Keep NoF w wr)
                          have HKY2 := Lib.hid (HK8R.out.trans HK9.out (fun _ _ f => f) (fun k hk f => .inr (.inr f)))
                          clear hSL HGS2
                          go_wp2_with fail
                          go_roundw
                          case rel => exact ⟨i + 1, by omega, by omega, by go_num, _, _, HBX.out.mono (by omega), noV_sub HNS.out who y, HS10.out, HKX.out, HKY2.out⟩
                          case measure => simp [intOf]; omega

set_option linter.unusedVariables false
set_option maxRecDepth 100000 in
theorem lifted (os : Os) (started : os.Started) (H : Type) (enc : TypeId × Value → H) :
    ReturnsInHanded {} Try.checked os 3 .any (Rows.voteAllSpec.pre6 enc Try.prog Try.f3 Rows.voteAllRow.domain false) (Rows.voteAllSpec.post enc Try.prog Try.f3 false true false false) := by
  refine returnsInHanded_of_change (C := Try.checked) own started (by kernel_rfl) Try.func3
    (ChangeSpec.witness6 (enc := enc) (C := Try.checked) false ⟨#[], #[.slice none 0 0, .slice none 0 0], []⟩ 8 (by kernel_rfl) (by kernel_rfl) (by kernel_rfl) (by kernel_rfl)) ?_
  intro W base args ds gs before hval0 hW hcnd _
  have hval : ∀ (j : Nat) t v, Try.f3.params[j]? = some t → args[j]? = some v → Value.okWide Try.prog W .any base t v := hval0
  have hW' := hW
  obtain ⟨p, q, hA0, hV, rfl, hfz, hnd⟩ := hW
  have hA : DataW.TrodAll enc Try.prog W 0 (fun _ => true) true Try.f3.params.toList args.toList ds p := hA0
  rw [Try.params3] at hA hval
  obtain ⟨v0, vs0, d0, ds0, p0, q0, hargs, rfl, rfl, h0, r0⟩ := trodAll_cons hA
  obtain ⟨v1, vs1, d1, ds1, p1, q1, rfl, rfl, rfl, h1, r1⟩ := trodAll_cons r0
  obtain ⟨rfl, rfl, rfl⟩ := trodAll_nil r1
  obtain rfl : args = #[v0, v1] := by cases args; simp_all
  obtain ⟨rfl, rfl⟩ := trodVars_none hV
  obtain ⟨a0, len0, cap0, rfl⟩ := okWide_slice Try.underlying22 (hval 0 22 v0 rfl rfl)
  have k0 := h0
  have lt0 : ∀ x ∈ p0, x.block < W.heap.size := by obtain ⟨m, hm⟩ := k0; exact DataW.trod_lt m _ _ _ hm
  obtain ⟨z0, w0⟩ : ∃ zs, IsRow .i64 W a0 len0 cap0 zs := by
    obtain ⟨fuel, hf⟩ := h0
    rcases open_ints Try.underlying22 Try.underlying3 (by kernel_rfl) hf with ⟨hcs, _⟩ | ⟨x, l, c, zs, hcs, _, hl, hm, hz, _, hcell, hwz⟩
    · simp [Value.cells] at hcs
      obtain ⟨rfl, rfl, rfl⟩ := hcs
      exact ⟨[], .inl ⟨rfl, rfl, rfl, rfl⟩⟩
    · simp [Value.cells] at hcs
      obtain ⟨rfl, rfl, rfl⟩ := hcs
      exact ⟨zs, .inr ⟨_, rfl, hl, hm, by simpa using hz, hcell, hwz⟩⟩
  obtain ⟨a1, len1, cap1, rfl⟩ := okWide_slice Try.underlying23 (hval 1 23 v1 rfl rfl)
  have k1 := h1
  have lt1 : ∀ x ∈ p1, x.block < W.heap.size := by obtain ⟨m, hm⟩ := k1; exact DataW.trod_lt m _ _ _ hm
  obtain ⟨z1, w1⟩ := open_arg1 W base h1
  clear hA0 hval0
  refine (walk W a0 len0 cap0 z0 w0 a1 len1 cap1 z1 w1).mono fun e W' ⟨he, hk⟩ => ?_
  subst he
  have bel := Keep.below hk
  exact ⟨_, rfl, _, _, _, [], _, [], hW', trodAll_mk1 (shut_bool Try.underlying4 _), (trodAll_cons_mk (Below.trod laidOut (by kernel_rfl) (of_decide_eq_true (by kernel_rfl)) k0 bel lt0) (trodAll_cons_mk (Below.trod laidOut (by kernel_rfl) (of_decide_eq_true (by kernel_rfl)) k1 bel lt1) trodAll_mk0)), rfl, bel.frame _, fun h => by cases h⟩

theorem over : Rows.voteAllRow.holds Try.pinned (OpenSpec.ofChange Rows.voteAllSpec) :=
  OpenClaim.holds_of_wide 3 Try.f3 rfl rfl rfl rfl rfl rfl rfl ⟨rfl, rfl, rfl, rfl, rfl⟩ rfl rfl rfl rfl rfl (by kernel_rfl) Try.func3 (by kernel_rfl)
    (of_decide_eq_true (by kernel_rfl)) (by unfold Func.isWrapper; rw [if_neg (of_decide_eq_false (by kernel_rfl))]; exact ⟨rfl, rfl⟩)
    (fun os started H enc _ => lifted os started H enc)

/-- The statement. -/
theorem proved : Rows.VoteAllSaid := over
#print axioms proved
end Go.Proofs.Ytlbpmhpcoihlnaa.voteAll
