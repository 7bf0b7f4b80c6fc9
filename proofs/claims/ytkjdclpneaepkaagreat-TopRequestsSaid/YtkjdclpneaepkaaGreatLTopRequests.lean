/- TopRequests: the law returns true and changes nothing that was there. No conditions. -/
import Derived.Test.YtkjdclpneaepkaaGreatTTopRequests
import Derived.Deep.CutRange
import Derived.Deep.RegionWith
import Derived.Deep.RegionHeld3
import Derived.BigQuiet
import Derived.Deep.QuietTactic
import Derived.Test.YtkjdclpneaepkaaGreatRows
import Derived.Test.YtkjdclpneaepkaaGreatGTopRequests
import Derived.WalkKit
import Derived.ProofKit
import Derived.OpenShut
import Derived.ShutString
import Derived.ChangeOld
import Derived.Below
namespace Go.Proofs.YtkjdclpneaepkaaGreat.topRequests
open Go Go.ChangeShapes Go.WideShapes Go.ChangeAt Go.RowKit
open Go.ChangeMaps (open_string shut_string)

theorem own : ownKnob Tryz.prog.godebug = none := by kernel_rfl
theorem laidOut : laidOutB Tryz.prog = true := facLaid

set_option linter.unusedVariables false
open Go.Proofs Go.Ev Go.RowKit Rq
theorem mem_step {l : List Int} {i : Nat} {σ : List Nat} (hi : i < l.length) (h : ∀ v, v ∈ σ ↔ ∃ j, j < i ∧ sm (l.getD j 0) = v) : ∀ v, v ∈ ins (sm l[i]) σ ↔ ∃ j, j < i + 1 ∧ sm (l.getD j 0) = v := fun v => by
  have e : l.getD i 0 = l[i] := by simp [List.getD_eq_getElem?_getD, List.getElem?_eq_getElem hi]
  have k : v ∈ ins (sm l[i]) σ ↔ v = sm l[i] ∨ v ∈ σ := by
    unfold ins
    split
    · rename_i q
      exact ⟨.inr, fun z => z.elim (fun z => by rw [z]; exact q) id⟩
    · exact List.mem_cons
  rw [k, h]
  constructor
  · rintro (rfl | ⟨j, hj, rfl⟩)
    · exact ⟨i, by omega, by rw [e]⟩
    · exact ⟨j, by omega, rfl⟩
  · rintro ⟨j, hj, rfl⟩
    rcases Nat.lt_succ_iff_lt_or_eq.1 hj with q | rfl
    · exact .inr ⟨j, q, rfl⟩
    · exact .inl (by rw [e])
theorem z_blk {wr w6 : World} {c : Array Value} {T : TypeId} (h : Keep NoF (wr.alloc (.cells c T)).drew w6) : w6.heap[wr.heap.size]? = some (.cells c T) :=
  (h.block wr.heap.size (by show _ < (wr.heap.push _).size; simp) (fun f => f)).trans (by show (wr.heap.push _)[wr.heap.size]? = _; simp)
theorem z_cell {wr w6 : World} {c : Array Value} {T : TypeId} (h : Keep NoF (wr.alloc (.cells c T)).drew w6) (k : Nat) (v : Value) (e : c[k]? = some v) : w6.cell? ⟨wr.heap.size, k, none⟩ = some v := by
  simp [World.cell?, z_blk h, e]
theorem ins_nodup {v : Nat} {σ : List Nat} (h : σ.Nodup) : (ins v σ).Nodup := by
  unfold ins
  split
  · exact h
  · rename_i q; exact List.nodup_cons.2 ⟨q, h⟩
theorem ins_lt {v : Nat} {σ : List Nat} (hv : v < 5) (h : ∀ u ∈ σ, u < 5) : ∀ u ∈ ins v σ, u < 5 := by
  unfold ins
  split
  · exact h
  · intro u hu
    rcases List.mem_cons.1 hu with rfl | hu
    · exact hv
    · exact h u hu
set_option maxRecDepth 8000 in
set_option maxHeartbeats 8000000 in
theorem walk (w : World) (a1 : Option Addr) (len1 cap1 : Nat) (z : List Int) (hz : IsRow .i64 w a1 len1 cap1 z) :
    Calls Tryz.prog 6 #[.slice a1 len1 cap1] w fun e w' => e = .returned (.bool true) ∧ Keep NoF w w' := by
  obtain ⟨l, x0, ρ0, hl, hH, h0, hL⟩ := open_row hz
  clear hz
  have HH := Lib.hid hH; have H0 := Lib.hid h0; have HL := Lib.hid hL
  clear hH h0 hL
  go_enter Tryz.func6, Tryz.ntmps6
  go_wp2_with fail
  refine (begtop w).mono ?_
  rintro e w1 ⟨rfl, hk⟩
  have K1 := Lib.hid hk
  clear hk
  go_upto_region 4 with fail
  refine start_any (by kernel_rfl) (by assumption) K1.out (by rfl) (by rfl) (HH.out w1) (by exact H0.out) HL.out (slot0 x0) (every x0) ?_
  intro t w2 hk2 hl2 hst
  have K2 := Lib.hid hk2; have HS := Lib.hid hst
  obtain ⟨al, cl, hv0, hwf, hcells⟩ := hl2
  have HW := Lib.hid hwf; have HC := Lib.hid hcells
  clear hk2 hst hwf hcells K1 HH H0 HL
  obtain ⟨v4, hv4⟩ : ∃ v, t 4 = v := ⟨_, rfl⟩
  obtain ⟨v6, hv6⟩ : ∃ v, t 6 = v := ⟨_, rfl⟩
  rw [hv4, hv6] at HS ⊢
  rw [hv0]
  clear hv0 hv4 hv6 hl
  go_wp2_with fail
  go_loopw [7, 8] (fun nv iv wr => ∃ (i : Nat) (σ : List Nat), i ≤ l.length ∧ i ≤ 8 ∧ iv = .int .i64 (i : Int) ∧ nv = .int .i64 ((σ.length : Nat) : Int) ∧ σ.Nodup ∧ (∀ v ∈ σ, v < 5) ∧ (∀ v, v ∈ σ ↔ ∃ j, j < i ∧ sm (l.getD j 0) = v) ∧ St (fun g => g < w.heap.size) x0 v4 v6 σ wr ∧ Keep NoF w wr) (fun _ iv _ => 8 - (intOf iv).toNat)
  case atStart => exact ⟨0, [], Nat.zero_le _, Nat.zero_le _, rfl, rfl, List.nodup_nil, by simp, by simp, HS.out, K2.out⟩
  case round =>
    obtain ⟨i, σ, hil, hi8, rfl, rfl, hσ, h5, hm, hs, hk⟩ := hrel
    have HN := Lib.hid hσ; have H5 := Lib.hid h5; have HM := Lib.hid hm; have HS1 := Lib.hid hs; have K3 := Lib.hid hk
    clear hσ h5 hm hs hk HS K2
    obtain ⟨n, hn⟩ : ∃ n, σ.length = n := ⟨_, rfl⟩
    rw [hn]
    have HL := Lib.hid hn
    clear hn
    go_upto_region 9 with fail
    go_cut [35] from 28 to 87 (fun v wx => v = .bool (decide (i < l.length ∧ i < 8)) ∧ wr = wx)
    case first =>
      by_cases hlt : i < l.length
      · have hlt2 : (i : Int) < l.length := by omega
        have hlt3 : decide ((i : Int) < l.length) = true := by simp [hlt]
        by_cases h8 : i < 8
        · have h8b : (i : Int) < 8 := by omega
          have h8c : decide ((i : Int) < 8) = true := by simp [h8b]
          have HG : Hid (decide (i < l.length ∧ i < 8) = true) := Lib.hid (decide_eq_true ⟨hlt, h8⟩)
          go_wp2_with fail
          go_meet
          exact ⟨by rw [HG.out], rfl⟩
        · have h8b : ¬ (i : Int) < 8 := by omega
          have h8c : decide ((i : Int) < 8) = false := by simp [h8b]
          have HG : Hid (decide (i < l.length ∧ i < 8) = false) := Lib.hid (decide_eq_false fun q => h8 q.2)
          go_wp2_with fail
          go_meet
          exact ⟨by rw [HG.out], rfl⟩
      · have hlt2 : ¬ (i : Int) < l.length := by omega
        have hlt3 : decide ((i : Int) < l.length) = false := by simp [hlt]
        have HG : Hid (decide (i < l.length ∧ i < 8) = false) := Lib.hid (decide_eq_false fun q => hlt q.1)
        go_wp2_with fail
        go_meet
        exact ⟨by rw [HG.out], rfl⟩
    case rest =>
      obtain ⟨hc, hw⟩ := hcut
      subst hc hw
      by_cases hlt : i < l.length ∧ i < 8
      · obtain ⟨hlt1, hlt8⟩ := hlt
        have hd : decide (i < l.length ∧ i < 8) = true := decide_eq_true ⟨hlt1, hlt8⟩
        rw [hd]
        obtain ⟨g, off, hal, hc⟩ := HC.out i hlt1
        obtain ⟨g6, o6, hv6, htid⟩ := tid_at HS1.out (every x0 σ HN.out H5.out)
        subst hal hv6
        have hc := K3.out.cell' hc (fun f => f)
        obtain ⟨x, hx⟩ : ∃ x, l[i] = x := ⟨_, rfl⟩
        have hwx := HW.out l[i] (List.getElem_mem _)
        have hmem := mem_step hlt1 HM.out
        rw [hx] at hc hwx hmem
        have HSM := Lib.hid (small5 x hwx)
        obtain ⟨r, hr⟩ : ∃ r, sm x = r := ⟨_, rfl⟩
        have hr5 : r < 5 := by rw [← hr]; exact sm_lt x
        rw [hr] at HSM hmem
        have HTX := Lib.hid (text_any r hr5)
        have HMEM := Lib.hid hmem; have HX := Lib.hid hx; have HR := Lib.hid hr
        have hi2 : (i : Int) < l.length := by omega
        clear hmem hx hr hd
        go_upto_region 11 with fail
        have hw10 : IntKind.i64.wrap (10 + (r : Int)) = ((10 + r : Nat) : Int) := by rw [IntWalk.i64_in _ (by omega)]; omega
        go_cut [9] from 28 to 87 (fun v wx => ∃ g9, v = .pointer (some ⟨g9, 0, none⟩) ∧ wr.heap.size ≤ g9 ∧ wx.heap[g9]? = some (.cells #[.int .i64 4, .int .i64 (10 + (r : Int)), .int .i64 0, .int .i64 4294967297, .string ⟨#[113]⟩, .string (⟨#[98]⟩ ++ bsOf [48 + r]), .slice none 0 0] 38 (0, 0)) ∧ Keep NoF wr wx)
        case first =>
          have HTK : Hid (∀ W, Calls Tryz.prog 18 #[.int .i64 (r : Int)] W fun e w' => e = .returned (.string (bsOf [48 + r])) ∧ Keep NoF W w') := Lib.hid fun W => (HTX.out W).mono fun e w' ⟨o0, o1, o2, o3, o4, o5⟩ => ⟨o0, o1, o2, o3, o4, fun k hk _ => o5 k hk⟩
          refine wp_region_noPanic ?_
          refine wp_region_held_drew (S := fun W' : World => W'.cell? ⟨g6, o6 + 1, none⟩ = some (.int .i64 4294967297) ∧ W'.cell? ⟨g, off + i, none⟩ = some (.int .i64 x)) (by kernel_rfl) ⟨htid, hc⟩ (fun hHeld => ?_)
          refine wpAnyH_take (i := 0) (oi := ?o0n1) (v := ?v0n1) ?hi0n1 (by kernel_rfl) (by kernel_rfl) (by kernel_rfl) (fun _ _ _ h => h) (Or.inl ⟨?w0n1, ?y0n1⟩) (by assumption) ?r0n1
          case hi0n1 => (simp only [List.getElem?_toArray, List.getElem?_cons_zero]; try rfl)
          case w0n1 => rfl
          case y0n1 => (intro w hSw; (try dsimp only at hSw); go_simp; (try with_reducible rfl))
          (try simp only [Act.put, List.setIfInBounds_toArray, List.set_cons_zero, List.set_cons_succ])
          refine wpAnyH_take (i := 1) (oi := ?o1n2) (v := ?v1n2) ?hi1n2 (by kernel_rfl) (by kernel_rfl) (by kernel_rfl) (fun _ _ _ h => h) (Or.inl ⟨?w1n2, ?y1n2⟩) (by assumption) ?r1n2
          case hi1n2 => (simp only [List.getElem?_toArray, List.getElem?_cons_succ, List.getElem?_cons_zero]; try rfl)
          case w1n2 => rfl
          case y1n2 => (intro w hSw; (try dsimp only at hSw); go_simp; (try with_reducible rfl))
          (try simp only [Act.put, List.setIfInBounds_toArray, List.set_cons_zero, List.set_cons_succ])
          refine wpAnyH_take (i := 2) (oi := ?o2n3) (v := ?v2n3) ?hi2n3 (by kernel_rfl) (by kernel_rfl) (by kernel_rfl) (fun _ _ _ h => h) (Or.inl ⟨?w2n3, ?y2n3⟩) (by assumption) ?r2n3
          case hi2n3 => (simp only [List.getElem?_toArray, List.getElem?_cons_succ, List.getElem?_cons_zero]; try rfl)
          case w2n3 => rfl
          case y2n3 => (intro w hSw; (try dsimp only at hSw); go_simp; (try with_reducible rfl))
          (try simp only [Act.put, List.setIfInBounds_toArray, List.set_cons_zero, List.set_cons_succ])
          refine wpAnyH_take (i := 3) (oi := ?o3n4) (v := ?v3n4) ?hi3n4 (by kernel_rfl) (by kernel_rfl) (by kernel_rfl) (fun _ _ _ h => h) (Or.inl ⟨?w3n4, ?y3n4⟩) (by assumption) ?r3n4
          case hi3n4 => (simp only [List.getElem?_toArray, List.getElem?_cons_succ, List.getElem?_cons_zero]; try rfl)
          case w3n4 => rfl
          case y3n4 => (intro w hSw; (try dsimp only at hSw); go_simp; (try with_reducible rfl))
          (try simp only [Act.put, List.setIfInBounds_toArray, List.set_cons_zero, List.set_cons_succ])
          refine wpAnyH_take (i := 6) (oi := ?o6n5) (v := ?v6n5) ?hi6n5 (by kernel_rfl) (by kernel_rfl) (by kernel_rfl) (fun _ _ _ h => h) (Or.inl ⟨?w6n5, ?y6n5⟩) (by assumption) ?r6n5
          case hi6n5 => (simp only [List.getElem?_toArray, List.getElem?_cons_succ, List.getElem?_cons_zero]; try rfl)
          case w6n5 => rfl
          case y6n5 => (intro w hSw; (try dsimp only at hSw); go_simp; (try with_reducible rfl))
          (try simp only [Act.put, List.setIfInBounds_toArray, List.set_cons_zero, List.set_cons_succ])
          refine wpAnyH_take (i := 7) (oi := ?o7n6) (v := ?v7n6) ?hi7n6 (by kernel_rfl) (by kernel_rfl) (by kernel_rfl) (fun _ _ _ h => h) (Or.inl ⟨?w7n6, ?y7n6⟩) (by assumption) ?r7n6
          case hi7n6 => (simp only [List.getElem?_toArray, List.getElem?_cons_succ, List.getElem?_cons_zero]; try rfl)
          case w7n6 => rfl
          case y7n6 => (intro w hSw; (try dsimp only at hSw); go_simp; (try with_reducible rfl))
          (try simp only [Act.put, List.setIfInBounds_toArray, List.set_cons_zero, List.set_cons_succ])
          refine wpAnyH_take (i := 8) (oi := ?o8n7) (v := ?v8n7) ?hi8n7 (by kernel_rfl) (by kernel_rfl) (by kernel_rfl) (fun _ _ _ h => h) (Or.inl ⟨?w8n7, ?y8n7⟩) (by assumption) ?r8n7
          case hi8n7 => (simp only [List.getElem?_toArray, List.getElem?_cons_succ, List.getElem?_cons_zero]; try rfl)
          case w8n7 => rfl
          case y8n7 => (intro w hSw; (try dsimp only at hSw); go_simp; (try with_reducible rfl))
          (try simp only [Act.put, List.setIfInBounds_toArray, List.set_cons_zero, List.set_cons_succ])
          refine wpAnyH_take (i := 9) (oi := ?o9n8) (v := ?v9n8) ?hi9n8 (by kernel_rfl) (by kernel_rfl) (by kernel_rfl) (fun _ _ _ h => h) (Or.inl ⟨?w9n8, ?y9n8⟩) (by assumption) ?r9n8
          case hi9n8 => (simp only [List.getElem?_toArray, List.getElem?_cons_succ, List.getElem?_cons_zero]; try rfl)
          case w9n8 => rfl
          case y9n8 => (intro w hSw; (try dsimp only at hSw); go_simp; (try with_reducible rfl))
          (try simp only [Act.put, List.setIfInBounds_toArray, List.set_cons_zero, List.set_cons_succ])
          refine wpAnyH_take (i := 10) (oi := ?o10n9) (v := ?v10n9) ?hi10n9 (by kernel_rfl) (by kernel_rfl) (by kernel_rfl) (fun _ _ _ h => h) (Or.inl ⟨?w10n9, ?y10n9⟩) (by assumption) ?r10n9
          case hi10n9 => (simp only [List.getElem?_toArray, List.getElem?_cons_succ, List.getElem?_cons_zero]; try rfl)
          case w10n9 => rfl
          case y10n9 => (intro w hSw; (try dsimp only at hSw); go_simp; (try with_reducible rfl))
          (try simp only [Act.put, List.setIfInBounds_toArray, List.set_cons_zero, List.set_cons_succ])
          refine wpAnyH_take (i := 11) (oi := ?o11n10) (v := ?v11n10) ?hi11n10 (by kernel_rfl) (by kernel_rfl) (by kernel_rfl) (fun _ _ _ h => h) (Or.inl ⟨?w11n10, ?y11n10⟩) (by assumption) ?r11n10
          case hi11n10 => (simp only [List.getElem?_toArray, List.getElem?_cons_succ, List.getElem?_cons_zero]; try rfl)
          case w11n10 => rfl
          case y11n10 => (intro w hSw; (try dsimp only at hSw); go_simp; (try with_reducible rfl))
          (try simp only [Act.put, List.setIfInBounds_toArray, List.set_cons_zero, List.set_cons_succ])
          refine wpAnyH_ready (rs := [4, 16]) (by kernel_rfl) (by simp) ?_
          refine AllReadyH.cons (o := ?o4n11) ?hi4n11 (fun K hK => ?m4n11) ?x4n11
          case hi4n11 => (simp only [List.getElem?_toArray, List.getElem?_cons_succ, List.getElem?_cons_zero]; try rfl)
          case m4n11 =>
            go_simp
            go_at_call 26; refine (HSM.out _).mono ?_; rintro e w5 ⟨rfl, rfl⟩
            go_wp2_with fail
            refine hK.out _ _ (⟨htid, hc⟩) (fun hHeld => ?_)
            clear hK K
            (try simp only [Act.put, List.setIfInBounds_toArray, List.set_cons_zero, List.set_cons_succ])
            refine wpAnyH_take (i := 5) (oi := ?o5n12) (v := ?v5n12) ?hi5n12 (by kernel_rfl) (by kernel_rfl) (by kernel_rfl) (fun _ _ _ h => h) (Or.inl ⟨?w5n12, ?y5n12⟩) (by assumption) ?r5n12
            case hi5n12 => (simp only [List.getElem?_toArray, List.getElem?_cons_succ, List.getElem?_cons_zero]; try rfl)
            case w5n12 => rfl
            case y5n12 => (intro w hSw; (try dsimp only at hSw); go_simp; (try with_reducible rfl))
            (try simp only [Act.put, List.setIfInBounds_toArray, List.set_cons_zero, List.set_cons_succ])
            refine wpAnyH_ready (rs := [12, 16]) (by kernel_rfl) (by simp) ?_
            refine AllReadyH.cons (o := ?o12n13) ?hi12n13 (fun K hK => ?m12n13) ?x12n13
            case hi12n13 => (simp only [List.getElem?_toArray, List.getElem?_cons_succ, List.getElem?_cons_zero]; try rfl)
            case m12n13 =>
              go_simp
              go_at_call 26; refine (HSM.out _).mono ?_; rintro e w5 ⟨rfl, rfl⟩
              go_wp2_with fail
              refine hK.out _ _ (⟨htid, hc⟩) (fun hHeld => ?_)
              clear hK K
              (try simp only [Act.put, List.setIfInBounds_toArray, List.set_cons_zero, List.set_cons_succ])
              refine wpAnyH_ready (rs := [13, 16]) (by kernel_rfl) (by simp) ?_
              refine AllReadyH.cons (o := ?o13n14) ?hi13n14 (fun K hK => ?m13n14) ?x13n14
              case hi13n14 => (simp only [List.getElem?_toArray, List.getElem?_cons_succ, List.getElem?_cons_zero]; try rfl)
              case m13n14 =>
                go_simp
                go_at_call 18; refine (HTK.out _).mono ?_; rintro e w6 ⟨rfl, hk6⟩
                have KW := Lib.hid ((Keep.refl NoF wr).drew.trans' hk6); clear hk6
                go_wp2_with fail
                refine hK.out _ _ (⟨KW.out.cell' htid (fun f => f), KW.out.cell' hc (fun f => f)⟩) (fun hHeld => ?_)
                clear hK K
                (try simp only [Act.put, List.setIfInBounds_toArray, List.set_cons_zero, List.set_cons_succ])
                refine wpAnyH_ready (rs := [14, 16]) (by kernel_rfl) (by simp) ?_
                refine AllReadyH.cons (o := ?o14n15) ?hi14n15 (fun K hK => ?m14n15) ?x14n15
                case hi14n15 => (simp only [List.getElem?_toArray, List.getElem?_cons_succ, List.getElem?_cons_zero]; try rfl)
                case m14n15 =>
                  go_simp
                  refine hK.out _ _ (⟨KW.out.cell' htid (fun f => f), KW.out.cell' hc (fun f => f)⟩) (fun hHeld => ?_)
                  clear hK K
                  (try simp only [Act.put, List.setIfInBounds_toArray, List.set_cons_zero, List.set_cons_succ])
                  refine wpAnyH_take (i := 15) (oi := ?o15n16) (v := ?v15n16) ?hi15n16 (by kernel_rfl) (by kernel_rfl) (by kernel_rfl) (fun _ _ _ h => h) (Or.inl ⟨?w15n16, ?y15n16⟩) (by assumption) ?r15n16
                  case hi15n16 => (simp only [List.getElem?_toArray, List.getElem?_cons_succ, List.getElem?_cons_zero]; try rfl)
                  case w15n16 => rfl
                  case y15n16 => (intro w hSw; (try dsimp only at hSw); go_simp; (try with_reducible rfl))
                  (try simp only [Act.put, List.setIfInBounds_toArray, List.set_cons_zero, List.set_cons_succ])
                  refine wpAnyH_ready (rs := [16]) (by kernel_rfl) (by simp) ?_
                  refine AllReadyH.cons (o := ?o16n17) ?hi16n17 (fun K hK => ?m16n17) AllReadyH.nil
                  case hi16n17 => (simp only [List.getElem?_toArray, List.getElem?_cons_succ, List.getElem?_cons_zero]; try rfl)
                  case m16n17 =>
                    refine step_alloc7 rfl rfl ?_
                    intro wa b9 hb9 hka hba
                    have KC := Lib.hid (KW.out.trans' hka); have HB9 := Lib.hid hb9; have HLT : Hid (wr.heap.size ≤ b9) := Lib.hid (Nat.le_trans KW.out.size hba); clear hb9 hka hba
                    refine hK.out _ _ (⟨KC.out.cell' htid (fun f => f), KC.out.cell' hc (fun f => f)⟩) (fun hHeld => ?_)
                    clear hK K
                    (try simp only [Act.put, List.setIfInBounds_toArray, List.set_cons_zero, List.set_cons_succ])
                    refine wpAnyH_ready (rs := [17]) (by kernel_rfl) (by simp) ?_
                    refine AllReadyH.cons (o := ?o17n18) ?hi17n18 (fun K hK => ?m17n18) AllReadyH.nil
                    case hi17n18 => (simp only [List.getElem?_toArray, List.getElem?_cons_succ, List.getElem?_cons_zero]; try rfl)
                    case m17n18 =>
                      refine step_store7 rfl rfl HB9.out rfl rfl (by simp [Value.oneCell']) KC.out HLT.out ?_
                      intro ws hbs hks; have KS := Lib.hid hks; have HBS := Lib.hid hbs; clear hks hbs
                      refine hK.out _ _ (⟨KS.out.cell' htid (fun f => f), KS.out.cell' hc (fun f => f)⟩) (fun hHeld => ?_)
                      clear hK K
                      (try simp only [Act.put])
                      refine wpAnyH_done (by kernel_rfl) ?_ _
                      refine NoPanic.normal ?_
                      go_wp2_with fail
                      go_meet
                      exact ⟨_, rfl, HLT.out, HBS.out, KS.out⟩
                refine AllReadyH.cons (o := ?o16n19) ?hi16n19 (fun K hK => ?m16n19) AllReadyH.nil
                case hi16n19 => (simp only [List.getElem?_toArray, List.getElem?_cons_succ, List.getElem?_cons_zero]; try rfl)
                case m16n19 =>
                  refine step_alloc7 rfl rfl ?_
                  intro wa b9 hb9 hka hba
                  have KC := Lib.hid (KW.out.trans' hka); have HB9 := Lib.hid hb9; have HLT : Hid (wr.heap.size ≤ b9) := Lib.hid (Nat.le_trans KW.out.size hba); clear hb9 hka hba
                  refine hK.out _ _ (⟨KC.out.cell' htid (fun f => f), KC.out.cell' hc (fun f => f)⟩) (fun hHeld => ?_)
                  clear hK K
                  (try simp only [Act.put, List.setIfInBounds_toArray, List.set_cons_zero, List.set_cons_succ])
                  refine wpAnyH_ready (rs := [14]) (by kernel_rfl) (by simp) ?_
                  refine AllReadyH.cons (o := ?o14n20) ?hi14n20 (fun K hK => ?m14n20) AllReadyH.nil
                  case hi14n20 => (simp only [List.getElem?_toArray, List.getElem?_cons_succ, List.getElem?_cons_zero]; try rfl)
                  case m14n20 =>
                    go_simp
                    refine hK.out _ _ (⟨KC.out.cell' htid (fun f => f), KC.out.cell' hc (fun f => f)⟩) (fun hHeld => ?_)
                    clear hK K
                    (try simp only [Act.put, List.setIfInBounds_toArray, List.set_cons_zero, List.set_cons_succ])
                    refine wpAnyH_take (i := 15) (oi := ?o15n21) (v := ?v15n21) ?hi15n21 (by kernel_rfl) (by kernel_rfl) (by kernel_rfl) (fun _ _ _ h => h) (Or.inl ⟨?w15n21, ?y15n21⟩) (by assumption) ?r15n21
                    case hi15n21 => (simp only [List.getElem?_toArray, List.getElem?_cons_succ, List.getElem?_cons_zero]; try rfl)
                    case w15n21 => rfl
                    case y15n21 => (intro w hSw; (try dsimp only at hSw); go_simp; (try with_reducible rfl))
                    (try simp only [Act.put, List.setIfInBounds_toArray, List.set_cons_zero, List.set_cons_succ])
                    refine wpAnyH_ready (rs := [17]) (by kernel_rfl) (by simp) ?_
                    refine AllReadyH.cons (o := ?o17n22) ?hi17n22 (fun K hK => ?m17n22) AllReadyH.nil
                    case hi17n22 => (simp only [List.getElem?_toArray, List.getElem?_cons_succ, List.getElem?_cons_zero]; try rfl)
                    case m17n22 =>
                      refine step_store7 rfl rfl HB9.out rfl rfl (by simp [Value.oneCell']) KC.out HLT.out ?_
                      intro ws hbs hks; have KS := Lib.hid hks; have HBS := Lib.hid hbs; clear hks hbs
                      refine hK.out _ _ (⟨KS.out.cell' htid (fun f => f), KS.out.cell' hc (fun f => f)⟩) (fun hHeld => ?_)
                      clear hK K
                      (try simp only [Act.put])
                      refine wpAnyH_done (by kernel_rfl) ?_ _
                      refine NoPanic.normal ?_
                      go_wp2_with fail
                      go_meet
                      exact ⟨_, rfl, HLT.out, HBS.out, KS.out⟩
              refine AllReadyH.cons (o := ?o16n23) ?hi16n23 (fun K hK => ?m16n23) AllReadyH.nil
              case hi16n23 => (simp only [List.getElem?_toArray, List.getElem?_cons_succ, List.getElem?_cons_zero]; try rfl)
              case m16n23 =>
                refine step_alloc7 rfl rfl ?_
                intro wa b9 hb9 hka hba
                have KC := Lib.hid ((Keep.refl NoF wr).drew.trans' hka); have HB9 := Lib.hid hb9; have HLT : Hid (wr.heap.size ≤ b9) := Lib.hid hba; clear hb9 hka hba
                refine hK.out _ _ (⟨KC.out.cell' htid (fun f => f), KC.out.cell' hc (fun f => f)⟩) (fun hHeld => ?_)
                clear hK K
                (try simp only [Act.put, List.setIfInBounds_toArray, List.set_cons_zero, List.set_cons_succ])
                refine wpAnyH_ready (rs := [13]) (by kernel_rfl) (by simp) ?_
                refine AllReadyH.cons (o := ?o13n24) ?hi13n24 (fun K hK => ?m13n24) AllReadyH.nil
                case hi13n24 => (simp only [List.getElem?_toArray, List.getElem?_cons_succ, List.getElem?_cons_zero]; try rfl)
                case m13n24 =>
                  go_simp
                  go_at_call 18; refine (HTK.out _).mono ?_; rintro e w6 ⟨rfl, hk6⟩
                  have HB6 := Lib.hid ((hk6.block b9 (lt_of_heap HB9.out) (fun f => f)).trans HB9.out); have KW := Lib.hid (KC.out.trans' hk6); clear hk6
                  go_wp2_with fail
                  refine hK.out _ _ (⟨KW.out.cell' htid (fun f => f), KW.out.cell' hc (fun f => f)⟩) (fun hHeld => ?_)
                  clear hK K
                  (try simp only [Act.put, List.setIfInBounds_toArray, List.set_cons_zero, List.set_cons_succ])
                  refine wpAnyH_ready (rs := [14]) (by kernel_rfl) (by simp) ?_
                  refine AllReadyH.cons (o := ?o14n25) ?hi14n25 (fun K hK => ?m14n25) AllReadyH.nil
                  case hi14n25 => (simp only [List.getElem?_toArray, List.getElem?_cons_succ, List.getElem?_cons_zero]; try rfl)
                  case m14n25 =>
                    go_simp
                    refine hK.out _ _ (⟨KW.out.cell' htid (fun f => f), KW.out.cell' hc (fun f => f)⟩) (fun hHeld => ?_)
                    clear hK K
                    (try simp only [Act.put, List.setIfInBounds_toArray, List.set_cons_zero, List.set_cons_succ])
                    refine wpAnyH_take (i := 15) (oi := ?o15n26) (v := ?v15n26) ?hi15n26 (by kernel_rfl) (by kernel_rfl) (by kernel_rfl) (fun _ _ _ h => h) (Or.inl ⟨?w15n26, ?y15n26⟩) (by assumption) ?r15n26
                    case hi15n26 => (simp only [List.getElem?_toArray, List.getElem?_cons_succ, List.getElem?_cons_zero]; try rfl)
                    case w15n26 => rfl
                    case y15n26 => (intro w hSw; (try dsimp only at hSw); go_simp; (try with_reducible rfl))
                    (try simp only [Act.put, List.setIfInBounds_toArray, List.set_cons_zero, List.set_cons_succ])
                    refine wpAnyH_ready (rs := [17]) (by kernel_rfl) (by simp) ?_
                    refine AllReadyH.cons (o := ?o17n27) ?hi17n27 (fun K hK => ?m17n27) AllReadyH.nil
                    case hi17n27 => (simp only [List.getElem?_toArray, List.getElem?_cons_succ, List.getElem?_cons_zero]; try rfl)
                    case m17n27 =>
                      refine step_store7 rfl rfl HB6.out rfl rfl (by simp [Value.oneCell']) KW.out HLT.out ?_
                      intro ws hbs hks; have KS := Lib.hid hks; have HBS := Lib.hid hbs; clear hks hbs
                      refine hK.out _ _ (⟨KS.out.cell' htid (fun f => f), KS.out.cell' hc (fun f => f)⟩) (fun hHeld => ?_)
                      clear hK K
                      (try simp only [Act.put])
                      refine wpAnyH_done (by kernel_rfl) ?_ _
                      refine NoPanic.normal ?_
                      go_wp2_with fail
                      go_meet
                      exact ⟨_, rfl, HLT.out, HBS.out, KS.out⟩
            refine AllReadyH.cons (o := ?o16n28) ?hi16n28 (fun K hK => ?m16n28) AllReadyH.nil
            case hi16n28 => (simp only [List.getElem?_toArray, List.getElem?_cons_succ, List.getElem?_cons_zero]; try rfl)
            case m16n28 =>
              refine step_alloc7 rfl rfl ?_
              intro wa b9 hb9 hka hba
              have KC := Lib.hid ((Keep.refl NoF wr).drew.trans' hka); have HB9 := Lib.hid hb9; have HLT : Hid (wr.heap.size ≤ b9) := Lib.hid hba; clear hb9 hka hba
              refine hK.out _ _ (⟨KC.out.cell' htid (fun f => f), KC.out.cell' hc (fun f => f)⟩) (fun hHeld => ?_)
              clear hK K
              (try simp only [Act.put, List.setIfInBounds_toArray, List.set_cons_zero, List.set_cons_succ])
              refine wpAnyH_ready (rs := [12]) (by kernel_rfl) (by simp) ?_
              refine AllReadyH.cons (o := ?o12n29) ?hi12n29 (fun K hK => ?m12n29) AllReadyH.nil
              case hi12n29 => (simp only [List.getElem?_toArray, List.getElem?_cons_succ, List.getElem?_cons_zero]; try rfl)
              case m12n29 =>
                go_simp
                go_at_call 26; refine (HSM.out _).mono ?_; rintro e w5 ⟨rfl, rfl⟩
                go_wp2_with fail
                refine hK.out _ _ (⟨KC.out.cell' htid (fun f => f), KC.out.cell' hc (fun f => f)⟩) (fun hHeld => ?_)
                clear hK K
                (try simp only [Act.put, List.setIfInBounds_toArray, List.set_cons_zero, List.set_cons_succ])
                refine wpAnyH_ready (rs := [13]) (by kernel_rfl) (by simp) ?_
                refine AllReadyH.cons (o := ?o13n30) ?hi13n30 (fun K hK => ?m13n30) AllReadyH.nil
                case hi13n30 => (simp only [List.getElem?_toArray, List.getElem?_cons_succ, List.getElem?_cons_zero]; try rfl)
                case m13n30 =>
                  go_simp
                  go_at_call 18; refine (HTK.out _).mono ?_; rintro e w6 ⟨rfl, hk6⟩
                  have HB6 := Lib.hid ((hk6.block b9 (lt_of_heap HB9.out) (fun f => f)).trans HB9.out); have KW := Lib.hid (KC.out.trans' hk6); clear hk6
                  go_wp2_with fail
                  refine hK.out _ _ (⟨KW.out.cell' htid (fun f => f), KW.out.cell' hc (fun f => f)⟩) (fun hHeld => ?_)
                  clear hK K
                  (try simp only [Act.put, List.setIfInBounds_toArray, List.set_cons_zero, List.set_cons_succ])
                  refine wpAnyH_ready (rs := [14]) (by kernel_rfl) (by simp) ?_
                  refine AllReadyH.cons (o := ?o14n31) ?hi14n31 (fun K hK => ?m14n31) AllReadyH.nil
                  case hi14n31 => (simp only [List.getElem?_toArray, List.getElem?_cons_succ, List.getElem?_cons_zero]; try rfl)
                  case m14n31 =>
                    go_simp
                    refine hK.out _ _ (⟨KW.out.cell' htid (fun f => f), KW.out.cell' hc (fun f => f)⟩) (fun hHeld => ?_)
                    clear hK K
                    (try simp only [Act.put, List.setIfInBounds_toArray, List.set_cons_zero, List.set_cons_succ])
                    refine wpAnyH_take (i := 15) (oi := ?o15n32) (v := ?v15n32) ?hi15n32 (by kernel_rfl) (by kernel_rfl) (by kernel_rfl) (fun _ _ _ h => h) (Or.inl ⟨?w15n32, ?y15n32⟩) (by assumption) ?r15n32
                    case hi15n32 => (simp only [List.getElem?_toArray, List.getElem?_cons_succ, List.getElem?_cons_zero]; try rfl)
                    case w15n32 => rfl
                    case y15n32 => (intro w hSw; (try dsimp only at hSw); go_simp; (try with_reducible rfl))
                    (try simp only [Act.put, List.setIfInBounds_toArray, List.set_cons_zero, List.set_cons_succ])
                    refine wpAnyH_ready (rs := [17]) (by kernel_rfl) (by simp) ?_
                    refine AllReadyH.cons (o := ?o17n33) ?hi17n33 (fun K hK => ?m17n33) AllReadyH.nil
                    case hi17n33 => (simp only [List.getElem?_toArray, List.getElem?_cons_succ, List.getElem?_cons_zero]; try rfl)
                    case m17n33 =>
                      refine step_store7 rfl rfl HB6.out rfl rfl (by simp [Value.oneCell']) KW.out HLT.out ?_
                      intro ws hbs hks; have KS := Lib.hid hks; have HBS := Lib.hid hbs; clear hks hbs
                      refine hK.out _ _ (⟨KS.out.cell' htid (fun f => f), KS.out.cell' hc (fun f => f)⟩) (fun hHeld => ?_)
                      clear hK K
                      (try simp only [Act.put])
                      refine wpAnyH_done (by kernel_rfl) ?_ _
                      refine NoPanic.normal ?_
                      go_wp2_with fail
                      go_meet
                      exact ⟨_, rfl, HLT.out, HBS.out, KS.out⟩
          refine AllReadyH.cons (o := ?o16n34) ?hi16n34 (fun K hK => ?m16n34) AllReadyH.nil
          case hi16n34 => (simp only [List.getElem?_toArray, List.getElem?_cons_succ, List.getElem?_cons_zero]; try rfl)
          case m16n34 =>
            refine step_alloc7 rfl rfl ?_
            intro wa b9 hb9 hka hba
            have KC := Lib.hid ((Keep.refl NoF wr).drew.trans' hka); have HB9 := Lib.hid hb9; have HLT : Hid (wr.heap.size ≤ b9) := Lib.hid hba; clear hb9 hka hba
            refine hK.out _ _ (⟨KC.out.cell' htid (fun f => f), KC.out.cell' hc (fun f => f)⟩) (fun hHeld => ?_)
            clear hK K
            (try simp only [Act.put, List.setIfInBounds_toArray, List.set_cons_zero, List.set_cons_succ])
            refine wpAnyH_ready (rs := [4]) (by kernel_rfl) (by simp) ?_
            refine AllReadyH.cons (o := ?o4n35) ?hi4n35 (fun K hK => ?m4n35) AllReadyH.nil
            case hi4n35 => (simp only [List.getElem?_toArray, List.getElem?_cons_succ, List.getElem?_cons_zero]; try rfl)
            case m4n35 =>
              go_simp
              go_at_call 26; refine (HSM.out _).mono ?_; rintro e w5 ⟨rfl, rfl⟩
              go_wp2_with fail
              refine hK.out _ _ (⟨KC.out.cell' htid (fun f => f), KC.out.cell' hc (fun f => f)⟩) (fun hHeld => ?_)
              clear hK K
              (try simp only [Act.put, List.setIfInBounds_toArray, List.set_cons_zero, List.set_cons_succ])
              refine wpAnyH_take (i := 5) (oi := ?o5n36) (v := ?v5n36) ?hi5n36 (by kernel_rfl) (by kernel_rfl) (by kernel_rfl) (fun _ _ _ h => h) (Or.inl ⟨?w5n36, ?y5n36⟩) (by assumption) ?r5n36
              case hi5n36 => (simp only [List.getElem?_toArray, List.getElem?_cons_succ, List.getElem?_cons_zero]; try rfl)
              case w5n36 => rfl
              case y5n36 => (intro w hSw; (try dsimp only at hSw); go_simp; (try with_reducible rfl))
              (try simp only [Act.put, List.setIfInBounds_toArray, List.set_cons_zero, List.set_cons_succ])
              refine wpAnyH_ready (rs := [12]) (by kernel_rfl) (by simp) ?_
              refine AllReadyH.cons (o := ?o12n37) ?hi12n37 (fun K hK => ?m12n37) AllReadyH.nil
              case hi12n37 => (simp only [List.getElem?_toArray, List.getElem?_cons_succ, List.getElem?_cons_zero]; try rfl)
              case m12n37 =>
                go_simp
                go_at_call 26; refine (HSM.out _).mono ?_; rintro e w5 ⟨rfl, rfl⟩
                go_wp2_with fail
                refine hK.out _ _ (⟨KC.out.cell' htid (fun f => f), KC.out.cell' hc (fun f => f)⟩) (fun hHeld => ?_)
                clear hK K
                (try simp only [Act.put, List.setIfInBounds_toArray, List.set_cons_zero, List.set_cons_succ])
                refine wpAnyH_ready (rs := [13]) (by kernel_rfl) (by simp) ?_
                refine AllReadyH.cons (o := ?o13n38) ?hi13n38 (fun K hK => ?m13n38) AllReadyH.nil
                case hi13n38 => (simp only [List.getElem?_toArray, List.getElem?_cons_succ, List.getElem?_cons_zero]; try rfl)
                case m13n38 =>
                  go_simp
                  go_at_call 18; refine (HTK.out _).mono ?_; rintro e w6 ⟨rfl, hk6⟩
                  have HB6 := Lib.hid ((hk6.block b9 (lt_of_heap HB9.out) (fun f => f)).trans HB9.out); have KW := Lib.hid (KC.out.trans' hk6); clear hk6
                  go_wp2_with fail
                  refine hK.out _ _ (⟨KW.out.cell' htid (fun f => f), KW.out.cell' hc (fun f => f)⟩) (fun hHeld => ?_)
                  clear hK K
                  (try simp only [Act.put, List.setIfInBounds_toArray, List.set_cons_zero, List.set_cons_succ])
                  refine wpAnyH_ready (rs := [14]) (by kernel_rfl) (by simp) ?_
                  refine AllReadyH.cons (o := ?o14n39) ?hi14n39 (fun K hK => ?m14n39) AllReadyH.nil
                  case hi14n39 => (simp only [List.getElem?_toArray, List.getElem?_cons_succ, List.getElem?_cons_zero]; try rfl)
                  case m14n39 =>
                    go_simp
                    refine hK.out _ _ (⟨KW.out.cell' htid (fun f => f), KW.out.cell' hc (fun f => f)⟩) (fun hHeld => ?_)
                    clear hK K
                    (try simp only [Act.put, List.setIfInBounds_toArray, List.set_cons_zero, List.set_cons_succ])
                    refine wpAnyH_take (i := 15) (oi := ?o15n40) (v := ?v15n40) ?hi15n40 (by kernel_rfl) (by kernel_rfl) (by kernel_rfl) (fun _ _ _ h => h) (Or.inl ⟨?w15n40, ?y15n40⟩) (by assumption) ?r15n40
                    case hi15n40 => (simp only [List.getElem?_toArray, List.getElem?_cons_succ, List.getElem?_cons_zero]; try rfl)
                    case w15n40 => rfl
                    case y15n40 => (intro w hSw; (try dsimp only at hSw); go_simp; (try with_reducible rfl))
                    (try simp only [Act.put, List.setIfInBounds_toArray, List.set_cons_zero, List.set_cons_succ])
                    refine wpAnyH_ready (rs := [17]) (by kernel_rfl) (by simp) ?_
                    refine AllReadyH.cons (o := ?o17n41) ?hi17n41 (fun K hK => ?m17n41) AllReadyH.nil
                    case hi17n41 => (simp only [List.getElem?_toArray, List.getElem?_cons_succ, List.getElem?_cons_zero]; try rfl)
                    case m17n41 =>
                      refine step_store7 rfl rfl HB6.out rfl rfl (by simp [Value.oneCell']) KW.out HLT.out ?_
                      intro ws hbs hks; have KS := Lib.hid hks; have HBS := Lib.hid hbs; clear hks hbs
                      refine hK.out _ _ (⟨KS.out.cell' htid (fun f => f), KS.out.cell' hc (fun f => f)⟩) (fun hHeld => ?_)
                      clear hK K
                      (try simp only [Act.put])
                      refine wpAnyH_done (by kernel_rfl) ?_ _
                      refine NoPanic.normal ?_
                      go_wp2_with fail
                      go_meet
                      exact ⟨_, rfl, HLT.out, HBS.out, KS.out⟩
        case rest =>
          obtain ⟨g9, hv9, hge, hb9, hk9⟩ := hcut
          subst hv9
          have s9 := HS1.out.new hge (lt_of_heap hb9) hk9.size (fun g hg => hk9.block g hg (fun f => f))
          have K9 := Lib.hid (K3.out.trans' hk9); have S9 := Lib.hid s9; have B9 := Lib.hid hb9
          have c0 : wc.cell? ⟨g9, 0, none⟩ = some (.int .i64 4) := by simp [World.cell?, hb9]
          have c1 : wc.cell? ⟨g9, 1, none⟩ = some (.int .i64 (10 + (r : Int))) := by simp [World.cell?, hb9]
          have c2 : wc.cell? ⟨g9, 2, none⟩ = some (.int .i64 0) := by simp [World.cell?, hb9]
          have c3 : wc.cell? ⟨g9, 3, none⟩ = some (.int .i64 4294967297) := by simp [World.cell?, hb9]
          have c4 : wc.cell? ⟨g9, 4, none⟩ = some (.string ⟨#[113]⟩) := by simp [World.cell?, hb9]
          have c5 : wc.cell? ⟨g9, 5, none⟩ = some (.string (⟨#[98]⟩ ++ bsOf [48 + r])) := by simp [World.cell?, hb9]
          have c6 : wc.cell? ⟨g9, 6, none⟩ = some (.slice none 0 0) := by simp [World.cell?, hb9]
          have HAV := Lib.hid (ask_V hr5)
          clear hb9 s9 hk9 hge
          go_wp2_with fail
          refine (call1 (every x0) S9.out HN.out H5.out hr5 HAV.out).mono ?_
          rintro e w3 ⟨rs, rfl, hmid, hkp⟩
          have MID := Lib.hid hmid; have K4 := Lib.hid (kp_keep K9.out hkp)
          have hb9 := (hkp.keep g9 (.inr rfl)).trans B9.out
          clear c0 c1 c2 c3 c4 c5 c6 hmid hkp
          have hfl := field0 (Value.int .i64 0) rs w3
          have c0 : w3.cell? ⟨g9, 0, none⟩ = some (.int .i64 4) := by simp [World.cell?, hb9]
          have c1 : w3.cell? ⟨g9, 1, none⟩ = some (.int .i64 (10 + (r : Int))) := by simp [World.cell?, hb9]
          have c2 : w3.cell? ⟨g9, 2, none⟩ = some (.int .i64 0) := by simp [World.cell?, hb9]
          have c3 : w3.cell? ⟨g9, 3, none⟩ = some (.int .i64 4294967297) := by simp [World.cell?, hb9]
          have c4 : w3.cell? ⟨g9, 4, none⟩ = some (.string ⟨#[113]⟩) := by simp [World.cell?, hb9]
          have c5 : w3.cell? ⟨g9, 5, none⟩ = some (.string (⟨#[98]⟩ ++ bsOf [48 + r])) := by simp [World.cell?, hb9]
          have c6 : w3.cell? ⟨g9, 6, none⟩ = some (.slice none 0 0) := by simp [World.cell?, hb9]
          clear hb9
          go_wp2_with fail
          refine (call2 MID.out HAV.out).mono ?_
          rintro e w5 ⟨rs2, rfl, hs5, hkp⟩
          clear hfl
          have hfl := field0 (Value.int .i64 0) rs2 w5
          have S5 := Lib.hid (hs5.mono (Pr' := fun g => g < w.heap.size) fun g q => .inl q); have K5 := Lib.hid (kp_keep K4.out hkp)
          clear c0 c1 c2 c3 c4 c5 c6 hs5 hkp MID S9 B9 htid hc
          go_wp2_with fail
          clear hfl
          go_loopw [10, 11] (fun fv kv wk => ∃ k : Nat, k ≤ i ∧ kv = .int .i64 (k : Int) ∧ fv = .bool (fr l r k) ∧ St (fun g => g < w.heap.size) x0 v4 (.pointer (some ⟨g6, o6, none⟩)) (ins r σ) wk ∧ Keep NoF w wk) (fun _ kv _ => i - (intOf kv).toNat)
          case atStart => exact ⟨0, Nat.zero_le _, rfl, rfl, S5.out, K5.out⟩
          case round =>
            obtain ⟨k, hki, rfl, rfl, hs6, hk6⟩ := hrel
            have S6 := Lib.hid hs6; have K6 := Lib.hid hk6
            clear hs6 hk6 S5 K5
            by_cases hlt : k < i
            · have hlt2 : (k : Int) < i := by omega
              have hlt3 : decide ((k : Int) < i) = true := by simp [hlt]
              obtain ⟨gk, ok, hgk, hck⟩ := HC.out k (by omega)
              obtain ⟨gi, oi, hgi, hci⟩ := HC.out i hlt1
              injection hgk with hgk; injection hgk with hgk1 hgk2
              injection hgi with hgi; injection hgi with hgi1 hgi2
              subst hgk1 hgk2 hgi1 hgi2
              have hck := K6.out.cell' hck (fun f => f)
              have hci := K6.out.cell' hci (fun f => f)
              have hwy := HW.out _ (List.getElem_mem (by omega : k < l.length))
              have hfs := fr_succ l r k
              have hyd : l.getD k 0 = l[k] := by simp [List.getD_eq_getElem?_getD, List.getElem?_eq_getElem (by omega : k < l.length)]
              rw [hyd] at hfs
              rw [HX.out] at hci
              obtain ⟨y, hy⟩ : ∃ y, l[k] = y := ⟨_, rfl⟩
              rw [hy] at hck hwy hfs
              clear hy hyd
              have HSK := Lib.hid (small5 y hwy)
              obtain ⟨q, hq⟩ : ∃ q, sm y = q := ⟨_, rfl⟩
              rw [hq] at HSK hfs
              have hkl : (k : Int) < l.length := by omega
              obtain ⟨fb, hfb⟩ : ∃ fb, fr l r k = fb := ⟨_, rfl⟩
              rw [hfb] at hfs ⊢
              have HFS := Lib.hid hfs
              clear hfs hfb hq
              go_upto_region 18 with fail
              cases fb with
              | true =>
                refine wp_region_noPanic ?_
                refine wp_region_held_drew (S := fun W' : World => W'.cell? ⟨g, off + k, none⟩ = some (.int .i64 y) ∧ W'.cell? ⟨g, off + i, none⟩ = some (.int .i64 x)) (by kernel_rfl) (⟨hck, hci⟩) (fun hHeld => ?_)
                refine wpAnyH_take (i := 0) (oi := ?oT0) (v := ?vT0) ?hiT0 (by kernel_rfl) (by kernel_rfl) (by kernel_rfl) (fun _ _ _ h => h) (Or.inl ⟨?wT0, ?yT0⟩) (by assumption) ?rT0
                case hiT0 => (simp only [List.getElem?_toArray, List.getElem?_cons_zero]; try rfl)
                case wT0 => rfl
                case yT0 => (intro w hSw; (try dsimp only at hSw); go_simp; (try with_reducible rfl))
                (try simp only [Act.put, List.setIfInBounds_toArray, List.set_cons_zero, List.set_cons_succ])
                refine wpAnyH_take (i := 1) (oi := ?oT1) (v := ?vT1) ?hiT1 (by kernel_rfl) (by kernel_rfl) (by kernel_rfl) (fun _ _ _ h => h) (Or.inl ⟨?wT1, ?yT1⟩) (by assumption) ?rT1
                case hiT1 => (simp only [List.getElem?_toArray, List.getElem?_cons_succ, List.getElem?_cons_zero]; try rfl)
                case wT1 => rfl
                case yT1 => (intro w hSw; (try dsimp only at hSw); go_simp; (try with_reducible rfl))
                (try simp only [Act.put, List.setIfInBounds_toArray, List.set_cons_zero, List.set_cons_succ])
                refine wpAnyH_take (i := 2) (oi := ?oT2) (v := ?vT2) ?hiT2 (by kernel_rfl) (by kernel_rfl) (by kernel_rfl) (fun _ _ _ h => h) (Or.inl ⟨?wT2, ?yT2⟩) (by assumption) ?rT2
                case hiT2 => (simp only [List.getElem?_toArray, List.getElem?_cons_succ, List.getElem?_cons_zero]; try rfl)
                case wT2 => rfl
                case yT2 => (intro w hSw; (try dsimp only at hSw); go_simp; (try with_reducible rfl))
                (try simp only [Act.put, List.setIfInBounds_toArray, List.set_cons_zero, List.set_cons_succ])
                refine wpAnyH_take (i := 3) (oi := ?oT3) (v := ?vT3) ?hiT3 (by kernel_rfl) (by kernel_rfl) (by kernel_rfl) (fun _ _ _ h => h) (Or.inl ⟨?wT3, ?yT3⟩) (by assumption) ?rT3
                case hiT3 => (simp only [List.getElem?_toArray, List.getElem?_cons_succ, List.getElem?_cons_zero]; try rfl)
                case wT3 => rfl
                case yT3 => (intro w hSw; (try dsimp only at hSw); go_simp; (try with_reducible rfl))
                (try simp only [Act.put, List.setIfInBounds_toArray, List.set_cons_zero, List.set_cons_succ])
                refine wpAnyH_take (i := 4) (oi := ?oT4) (v := ?vT4) ?hiT4 (by kernel_rfl) (by kernel_rfl) (by kernel_rfl) (fun _ _ _ h => h) (Or.inl ⟨?wT4, ?yT4⟩) (by assumption) ?rT4
                case hiT4 => (simp only [List.getElem?_toArray, List.getElem?_cons_succ, List.getElem?_cons_zero]; try rfl)
                case wT4 => rfl
                case yT4 => (intro w hSw; (try dsimp only at hSw); go_simp; (try with_reducible rfl))
                (try simp only [Act.put, List.setIfInBounds_toArray, List.set_cons_zero, List.set_cons_succ])
                refine wpAnyH_take (i := 5) (oi := ?oT5) (v := ?vT5) ?hiT5 (by kernel_rfl) (by kernel_rfl) (by kernel_rfl) (fun _ _ _ h => h) (Or.inl ⟨?wT5, ?yT5⟩) (by assumption) ?rT5
                case hiT5 => (simp only [List.getElem?_toArray, List.getElem?_cons_succ, List.getElem?_cons_zero]; try rfl)
                case wT5 => rfl
                case yT5 => (intro w hSw; (try dsimp only at hSw); go_simp; (try with_reducible rfl))
                (try simp only [Act.put, List.setIfInBounds_toArray, List.set_cons_zero, List.set_cons_succ])
                refine wpAnyH_take (i := 7) (oi := ?oT7) (v := ?vT7) ?hiT7 (by kernel_rfl) (by kernel_rfl) (by kernel_rfl) (fun _ _ _ h => h) (Or.inl ⟨?wT7, ?yT7⟩) (by assumption) ?rT7
                case hiT7 => (simp only [List.getElem?_toArray, List.getElem?_cons_succ, List.getElem?_cons_zero]; try rfl)
                case wT7 => rfl
                case yT7 => (intro w hSw; (try dsimp only at hSw); go_simp; (try with_reducible rfl))
                (try simp only [Act.put, List.setIfInBounds_toArray, List.set_cons_zero, List.set_cons_succ])
                refine wpAnyH_take (i := 8) (oi := ?oT8) (v := ?vT8) ?hiT8 (by kernel_rfl) (by kernel_rfl) (by kernel_rfl) (fun _ _ _ h => h) (Or.inl ⟨?wT8, ?yT8⟩) (by assumption) ?rT8
                case hiT8 => (simp only [List.getElem?_toArray, List.getElem?_cons_succ, List.getElem?_cons_zero]; try rfl)
                case wT8 => rfl
                case yT8 => (intro w hSw; (try dsimp only at hSw); go_simp; (try with_reducible rfl))
                (try simp only [Act.put, List.setIfInBounds_toArray, List.set_cons_zero, List.set_cons_succ])
                refine wpAnyH_take (i := 9) (oi := ?oT9) (v := ?vT9) ?hiT9 (by kernel_rfl) (by kernel_rfl) (by kernel_rfl) (fun _ _ _ h => h) (Or.inl ⟨?wT9, ?yT9⟩) (by assumption) ?rT9
                case hiT9 => (simp only [List.getElem?_toArray, List.getElem?_cons_succ, List.getElem?_cons_zero]; try rfl)
                case wT9 => rfl
                case yT9 => (intro w hSw; (try dsimp only at hSw); go_simp; (try with_reducible rfl))
                (try simp only [Act.put, List.setIfInBounds_toArray, List.set_cons_zero, List.set_cons_succ])
                refine wpAnyH_take (i := 10) (oi := ?oT10) (v := ?vT10) ?hiT10 (by kernel_rfl) (by kernel_rfl) (by kernel_rfl) (fun _ _ _ h => h) (Or.inl ⟨?wT10, ?yT10⟩) (by assumption) ?rT10
                case hiT10 => (simp only [List.getElem?_toArray, List.getElem?_cons_succ, List.getElem?_cons_zero]; try rfl)
                case wT10 => rfl
                case yT10 => (intro w hSw; (try dsimp only at hSw); go_simp; (try with_reducible rfl))
                (try simp only [Act.put, List.setIfInBounds_toArray, List.set_cons_zero, List.set_cons_succ])
                refine wpAnyH_ready (rs := [6]) (by kernel_rfl) (by simp) ?_
                refine AllReadyH.cons (o := ?oT6) ?hiT6 (fun K hK => ?_) AllReadyH.nil
                case hiT6 => (simp only [List.getElem?_toArray, List.getElem?_cons_succ, List.getElem?_cons_zero]; try rfl)
                go_simp
                (go_at_call 26; refine (HSK.out _).mono ?_; rintro e w8 ⟨rfl, rfl⟩)
                go_wp2_with fail
                refine hK.out _ _ (⟨hck, hci⟩) (fun hHeld => ?_)
                clear hK K
                (try simp only [Act.put, List.setIfInBounds_toArray, List.set_cons_zero, List.set_cons_succ])
                refine wpAnyH_ready (rs := [11]) (by kernel_rfl) (by simp) ?_
                refine AllReadyH.cons (o := ?oT11) ?hiT11 (fun K hK => ?_) AllReadyH.nil
                case hiT11 => (simp only [List.getElem?_toArray, List.getElem?_cons_succ, List.getElem?_cons_zero]; try rfl)
                go_simp
                (go_at_call 26; refine (HSM.out _).mono ?_; rintro e w8 ⟨rfl, rfl⟩)
                go_wp2_with fail
                refine hK.out _ _ (⟨hck, hci⟩) (fun hHeld => ?_)
                clear hK K
                (try simp only [Act.put, List.setIfInBounds_toArray, List.set_cons_zero, List.set_cons_succ])
                refine wpAnyH_take (i := 12) (oi := ?oT12) (v := ?vT12) ?hiT12 (by kernel_rfl) (by kernel_rfl) (by kernel_rfl) (fun _ _ _ h => h) (Or.inl ⟨?wT12, ?yT12⟩) (by assumption) ?rT12
                case hiT12 => (simp only [List.getElem?_toArray, List.getElem?_cons_succ, List.getElem?_cons_zero]; try rfl)
                case wT12 => rfl
                case yT12 => (intro w hSw; (try dsimp only at hSw); go_simp; (try with_reducible rfl))
                (try simp only [Act.put, List.setIfInBounds_toArray, List.set_cons_zero, List.set_cons_succ])
                refine wpAnyH_take (i := 13) (oi := ?oT13) (v := ?vT13) ?hiT13 (by kernel_rfl) (by kernel_rfl) (by kernel_rfl) (fun _ _ _ h => h) (Or.inl ⟨?wT13, ?yT13⟩) (by assumption) ?rT13
                case hiT13 => (simp only [List.getElem?_toArray, List.getElem?_cons_succ, List.getElem?_cons_zero]; try rfl)
                case wT13 => rfl
                case yT13 => (intro w hSw; (try dsimp only at hSw); go_simp; (try with_reducible rfl))
                (try simp only [Act.put, List.setIfInBounds_toArray, List.set_cons_zero, List.set_cons_succ])
                refine wpAnyH_take (i := 14) (oi := ?oT14) (v := ?vT14) ?hiT14 (by kernel_rfl) (by kernel_rfl) (by kernel_rfl) (fun _ _ _ h => h) (Or.inl ⟨?wT14, ?yT14⟩) (by assumption) ?rT14
                case hiT14 => (simp only [List.getElem?_toArray, List.getElem?_cons_succ, List.getElem?_cons_zero]; try rfl)
                case wT14 => rfl
                case yT14 => (intro w hSw; (try dsimp only at hSw); go_simp; (try with_reducible rfl))
                (try simp only [Act.put, List.setIfInBounds_toArray, List.set_cons_zero, List.set_cons_succ])
                refine wpAnyH_done (by kernel_rfl) ?_ _
                refine NoPanic.normal ?_
                go_wp2_with fail
                refine ⟨⟨k + 1, by omega, by go_num, ?_, S6.out.keep (Nat.le_refl _) (fun _ _ => rfl), K6.out.drew⟩, by simp [intOf]; omega⟩
                rw [HFS.out]
                by_cases hqr : q = r
                · subst hqr; simp
                · have hqi : ¬ (q : Int) = r := by omega
                  have h1 : ((q : Int) != (r : Int)) = true := bne_iff_ne.2 hqi
                  have h2 : (q == r) = false := beq_eq_false_iff_ne.2 hqr
                  rw [h1, h2]; rfl
              | false =>
                refine wp_region_noPanic ?_
                refine wp_region_held_drew (S := fun W' : World => W'.cell? ⟨g, off + k, none⟩ = some (.int .i64 y) ∧ W'.cell? ⟨g, off + i, none⟩ = some (.int .i64 x)) (by kernel_rfl) (⟨hck, hci⟩) (fun hHeld => ?_)
                refine wpAnyH_take (i := 0) (oi := ?oF0) (v := ?vF0) ?hiF0 (by kernel_rfl) (by kernel_rfl) (by kernel_rfl) (fun _ _ _ h => h) (Or.inl ⟨?wF0, ?yF0⟩) (by assumption) ?rF0
                case hiF0 => (simp only [List.getElem?_toArray, List.getElem?_cons_zero]; try rfl)
                case wF0 => rfl
                case yF0 => (intro w hSw; (try dsimp only at hSw); go_simp; (try with_reducible rfl))
                (try simp only [Act.put, List.setIfInBounds_toArray, List.set_cons_zero, List.set_cons_succ])
                refine wpAnyH_take (i := 1) (oi := ?oF1) (v := ?vF1) ?hiF1 (by kernel_rfl) (by kernel_rfl) (by kernel_rfl) (fun _ _ _ h => h) (Or.inl ⟨?wF1, ?yF1⟩) (by assumption) ?rF1
                case hiF1 => (simp only [List.getElem?_toArray, List.getElem?_cons_succ, List.getElem?_cons_zero]; try rfl)
                case wF1 => rfl
                case yF1 => (intro w hSw; (try dsimp only at hSw); go_simp; (try with_reducible rfl))
                (try simp only [Act.put, List.setIfInBounds_toArray, List.set_cons_zero, List.set_cons_succ])
                refine wpAnyH_take (i := 2) (oi := ?oF2) (v := undef) ?hiF2 (by kernel_rfl) (by kernel_rfl) (by kernel_rfl) (fun _ _ _ h => h) (Or.inr ⟨?wF2, rfl⟩) (by assumption) ?rF2
                case hiF2 => (simp only [List.getElem?_toArray, List.getElem?_cons_succ, List.getElem?_cons_zero]; try rfl)
                case wF2 => rfl
                (try simp only [Act.put, List.setIfInBounds_toArray, List.set_cons_zero, List.set_cons_succ])
                refine wpAnyH_take (i := 3) (oi := ?oF3) (v := undef) ?hiF3 (by kernel_rfl) (by kernel_rfl) (by kernel_rfl) (fun _ _ _ h => h) (Or.inr ⟨?wF3, rfl⟩) (by assumption) ?rF3
                case hiF3 => (simp only [List.getElem?_toArray, List.getElem?_cons_succ, List.getElem?_cons_zero]; try rfl)
                case wF3 => rfl
                (try simp only [Act.put, List.setIfInBounds_toArray, List.set_cons_zero, List.set_cons_succ])
                refine wpAnyH_take (i := 4) (oi := ?oF4) (v := undef) ?hiF4 (by kernel_rfl) (by kernel_rfl) (by kernel_rfl) (fun _ _ _ h => h) (Or.inr ⟨?wF4, rfl⟩) (by assumption) ?rF4
                case hiF4 => (simp only [List.getElem?_toArray, List.getElem?_cons_succ, List.getElem?_cons_zero]; try rfl)
                case wF4 => rfl
                (try simp only [Act.put, List.setIfInBounds_toArray, List.set_cons_zero, List.set_cons_succ])
                refine wpAnyH_take (i := 5) (oi := ?oF5) (v := undef) ?hiF5 (by kernel_rfl) (by kernel_rfl) (by kernel_rfl) (fun _ _ _ h => h) (Or.inr ⟨?wF5, rfl⟩) (by assumption) ?rF5
                case hiF5 => (simp only [List.getElem?_toArray, List.getElem?_cons_succ, List.getElem?_cons_zero]; try rfl)
                case wF5 => rfl
                (try simp only [Act.put, List.setIfInBounds_toArray, List.set_cons_zero, List.set_cons_succ])
                refine wpAnyH_take (i := 6) (oi := ?oF6) (v := undef) ?hiF6 (by kernel_rfl) (by kernel_rfl) (by kernel_rfl) (fun _ _ _ h => h) (Or.inr ⟨?wF6, rfl⟩) (by assumption) ?rF6
                case hiF6 => (simp only [List.getElem?_toArray, List.getElem?_cons_succ, List.getElem?_cons_zero]; try rfl)
                case wF6 => rfl
                (try simp only [Act.put, List.setIfInBounds_toArray, List.set_cons_zero, List.set_cons_succ])
                refine wpAnyH_take (i := 7) (oi := ?oF7) (v := undef) ?hiF7 (by kernel_rfl) (by kernel_rfl) (by kernel_rfl) (fun _ _ _ h => h) (Or.inr ⟨?wF7, rfl⟩) (by assumption) ?rF7
                case hiF7 => (simp only [List.getElem?_toArray, List.getElem?_cons_succ, List.getElem?_cons_zero]; try rfl)
                case wF7 => rfl
                (try simp only [Act.put, List.setIfInBounds_toArray, List.set_cons_zero, List.set_cons_succ])
                refine wpAnyH_take (i := 8) (oi := ?oF8) (v := undef) ?hiF8 (by kernel_rfl) (by kernel_rfl) (by kernel_rfl) (fun _ _ _ h => h) (Or.inr ⟨?wF8, rfl⟩) (by assumption) ?rF8
                case hiF8 => (simp only [List.getElem?_toArray, List.getElem?_cons_succ, List.getElem?_cons_zero]; try rfl)
                case wF8 => rfl
                (try simp only [Act.put, List.setIfInBounds_toArray, List.set_cons_zero, List.set_cons_succ])
                refine wpAnyH_take (i := 9) (oi := ?oF9) (v := undef) ?hiF9 (by kernel_rfl) (by kernel_rfl) (by kernel_rfl) (fun _ _ _ h => h) (Or.inr ⟨?wF9, rfl⟩) (by assumption) ?rF9
                case hiF9 => (simp only [List.getElem?_toArray, List.getElem?_cons_succ, List.getElem?_cons_zero]; try rfl)
                case wF9 => rfl
                (try simp only [Act.put, List.setIfInBounds_toArray, List.set_cons_zero, List.set_cons_succ])
                refine wpAnyH_take (i := 10) (oi := ?oF10) (v := undef) ?hiF10 (by kernel_rfl) (by kernel_rfl) (by kernel_rfl) (fun _ _ _ h => h) (Or.inr ⟨?wF10, rfl⟩) (by assumption) ?rF10
                case hiF10 => (simp only [List.getElem?_toArray, List.getElem?_cons_succ, List.getElem?_cons_zero]; try rfl)
                case wF10 => rfl
                (try simp only [Act.put, List.setIfInBounds_toArray, List.set_cons_zero, List.set_cons_succ])
                refine wpAnyH_take (i := 11) (oi := ?oF11) (v := undef) ?hiF11 (by kernel_rfl) (by kernel_rfl) (by kernel_rfl) (fun _ _ _ h => h) (Or.inr ⟨?wF11, rfl⟩) (by assumption) ?rF11
                case hiF11 => (simp only [List.getElem?_toArray, List.getElem?_cons_succ, List.getElem?_cons_zero]; try rfl)
                case wF11 => rfl
                (try simp only [Act.put, List.setIfInBounds_toArray, List.set_cons_zero, List.set_cons_succ])
                refine wpAnyH_take (i := 12) (oi := ?oF12) (v := undef) ?hiF12 (by kernel_rfl) (by kernel_rfl) (by kernel_rfl) (fun _ _ _ h => h) (Or.inr ⟨?wF12, rfl⟩) (by assumption) ?rF12
                case hiF12 => (simp only [List.getElem?_toArray, List.getElem?_cons_succ, List.getElem?_cons_zero]; try rfl)
                case wF12 => rfl
                (try simp only [Act.put, List.setIfInBounds_toArray, List.set_cons_zero, List.set_cons_succ])
                refine wpAnyH_take (i := 13) (oi := ?oF13) (v := ?vF13) ?hiF13 (by kernel_rfl) (by kernel_rfl) (by kernel_rfl) (fun _ _ _ h => h) (Or.inl ⟨?wF13, ?yF13⟩) (by assumption) ?rF13
                case hiF13 => (simp only [List.getElem?_toArray, List.getElem?_cons_succ, List.getElem?_cons_zero]; try rfl)
                case wF13 => rfl
                case yF13 => (intro w hSw; (try dsimp only at hSw); go_simp; (try with_reducible rfl))
                (try simp only [Act.put, List.setIfInBounds_toArray, List.set_cons_zero, List.set_cons_succ])
                refine wpAnyH_take (i := 14) (oi := ?oF14) (v := ?vF14) ?hiF14 (by kernel_rfl) (by kernel_rfl) (by kernel_rfl) (fun _ _ _ h => h) (Or.inl ⟨?wF14, ?yF14⟩) (by assumption) ?rF14
                case hiF14 => (simp only [List.getElem?_toArray, List.getElem?_cons_succ, List.getElem?_cons_zero]; try rfl)
                case wF14 => rfl
                case yF14 => (intro w hSw; (try dsimp only at hSw); go_simp; (try with_reducible rfl))
                (try simp only [Act.put, List.setIfInBounds_toArray, List.set_cons_zero, List.set_cons_succ])
                refine wpAnyH_done (by kernel_rfl) ?_ _
                refine NoPanic.normal ?_
                go_wp2_with fail
                exact ⟨⟨k + 1, by omega, by go_num, by rw [HFS.out]; rfl, S6.out.keep (Nat.le_refl _) (fun _ _ => rfl), K6.out.drew⟩, by simp [intOf]; omega⟩
            · have e : k = i := by omega
              rw [e]
              clear hlt
              have hlt2 : ¬ (i : Int) < i := by omega
              have hlt3 : decide ((i : Int) < i) = false := by simp
              have hn5 := len5 σ HN.out H5.out
              rw [HL.out] at hn5
              have hnb : (n : Int) ≤ 5 := by omega
              obtain ⟨fb, hfb⟩ : ∃ fb, fr l r i = fb := ⟨_, rfl⟩
              have hfi := fr_iff HM.out (r := r)
              rw [hfb] at hfi ⊢
              have HFI := Lib.hid hfi
              clear hfb hfi e
              cases fb with
              | true =>
                have HIL : Hid ((ins r σ).length = n + 1) := Lib.hid (by rw [show ins r σ = r :: σ from if_neg (HFI.out.1 rfl), List.length_cons, HL.out])
                go_wp2_with fail
                exact ⟨⟨i + 1, ins r σ, by omega, by omega, by go_num, by rw [HIL.out]; go_num, ins_nodup HN.out, ins_lt hr5 H5.out, HMEM.out, S6.out, K6.out⟩, by simp [intOf]; omega⟩
              | false =>
                have HIL : Hid ((ins r σ).length = n) := Lib.hid (by rw [show ins r σ = σ from if_pos (Classical.byContradiction fun q => by have := HFI.out.2 q; cases this), HL.out])
                go_wp2_with fail
                exact ⟨⟨i + 1, ins r σ, by omega, by omega, by go_num, by rw [HIL.out], ins_nodup HN.out, ins_lt hr5 H5.out, HMEM.out, S6.out, K6.out⟩, by simp [intOf]; omega⟩
      · have hd : decide (i < l.length ∧ i < 8) = false := decide_eq_false hlt
        rw [hd]
        go_upto_region 21 with fail
        exact end_any2 (by kernel_rfl) (by assumption) (every x0) HS1.out (fun g q => q) HN.out H5.out K3.out rfl rfl rfl rfl (by rw [HL.out]; rfl)

set_option linter.unusedVariables false
set_option maxRecDepth 100000 in
theorem lifted (os : Os) (started : os.Started) (H : Type) (enc : TypeId × Value → H) :
    ReturnsInHanded {} Tryz.checked os 6 .any (Rows.topRequestsSpec.pre6 enc Tryz.prog Tryz.f6 Rows.topRequestsRow.domain false) (Rows.topRequestsSpec.post enc Tryz.prog Tryz.f6 false true false false) := by
  refine returnsInHanded_of_change (C := Tryz.checked) own started (by kernel_rfl) Tryz.func6
    (ChangeSpec.witness6 (enc := enc) (C := Tryz.checked) false ⟨#[], #[.slice none 0 0], []⟩ 8 (by kernel_rfl) (by kernel_rfl) (by kernel_rfl) (by kernel_rfl)) ?_
  intro W base args ds gs before hval0 hW hcnd _
  have hval : ∀ (j : Nat) t v, Tryz.f6.params[j]? = some t → args[j]? = some v → Value.okWide Tryz.prog W .any base t v := hval0
  have hW' := hW
  obtain ⟨p, q, hA0, hV, rfl, hfz, hnd⟩ := hW
  have hA : DataW.TrodAll enc Tryz.prog W 0 (fun _ => true) true Tryz.f6.params.toList args.toList ds p := hA0
  rw [Tryz.params6] at hA hval
  obtain ⟨v0, vs0, d0, ds0, p0, q0, hargs, rfl, rfl, h0, r0⟩ := trodAll_cons hA
  obtain ⟨rfl, rfl, rfl⟩ := trodAll_nil r0
  obtain rfl : args = #[v0] := by cases args; simp_all
  obtain ⟨rfl, rfl⟩ := trodVars_none hV
  obtain ⟨a0, len0, cap0, rfl⟩ := okWide_slice Tryz.underlying49 (hval 0 49 v0 rfl rfl)
  have k0 := h0
  have lt0 : ∀ x ∈ p0, x.block < W.heap.size := by obtain ⟨m, hm⟩ := k0; exact DataW.trod_lt m _ _ _ hm
  obtain ⟨z0, w0⟩ : ∃ zs, IsRow .i64 W a0 len0 cap0 zs := by
    obtain ⟨fuel, hf⟩ := h0
    rcases open_ints Tryz.underlying49 Tryz.underlying3 (by kernel_rfl) hf with ⟨hcs, _⟩ | ⟨x, l, c, zs, hcs, _, hl, hm, hz, _, hcell, hwz⟩
    · simp [Value.cells] at hcs
      obtain ⟨rfl, rfl, rfl⟩ := hcs
      exact ⟨[], .inl ⟨rfl, rfl, rfl, rfl⟩⟩
    · simp [Value.cells] at hcs
      obtain ⟨rfl, rfl, rfl⟩ := hcs
      exact ⟨zs, .inr ⟨_, rfl, hl, hm, by simpa using hz, hcell, hwz⟩⟩
  clear hA0 hval0
  refine (walk W a0 len0 cap0 z0 w0).mono fun e W' ⟨he, hk⟩ => ?_
  subst he
  have bel := Keep.below hk
  exact ⟨_, rfl, _, _, _, [], _, [], hW', trodAll_mk1 (shut_bool Tryz.underlying4 _), (trodAll_cons_mk (Below.trod laidOut (by kernel_rfl) (of_decide_eq_true (by kernel_rfl)) k0 bel lt0) trodAll_mk0), rfl, bel.frame _, fun h => by cases h⟩

theorem over : Rows.topRequestsRow.holds Tryz.pinned (OpenSpec.ofChange Rows.topRequestsSpec) :=
  OpenClaim.holds_of_wide 6 Tryz.f6 rfl rfl rfl rfl rfl rfl rfl ⟨rfl, rfl, rfl, rfl, rfl⟩ rfl rfl rfl rfl rfl facName Tryz.func6 (joined_of facLaid facMaps facPlace facUnf facRec facNamed facKeys facHeard facEnter facLift facMake (by kernel_rfl))
    (of_decide_eq_true (by kernel_rfl)) (by unfold Func.isWrapper; rw [if_neg (of_decide_eq_false (by kernel_rfl))]; exact ⟨rfl, rfl⟩)
    (fun os started H enc _ => lifted os started H enc)

/-- The statement. -/
theorem proved : Rows.TopRequestsSaid := over
#print axioms proved
end Go.Proofs.YtkjdclpneaepkaaGreat.topRequests
