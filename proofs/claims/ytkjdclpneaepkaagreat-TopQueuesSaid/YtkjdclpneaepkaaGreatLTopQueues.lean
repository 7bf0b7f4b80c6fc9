/- TopQueues: the law returns true and changes nothing that was there. No conditions. -/
import Derived.Test.YtkjdclpneaepkaaGreatTTopQueues
import Derived.Deep.CutRange
import Derived.Deep.RegionWith
import Derived.Deep.RegionHeld3
import Derived.BigQuiet
import Derived.Deep.QuietTactic
import Derived.Test.YtkjdclpneaepkaaGreatRows
import Derived.Test.YtkjdclpneaepkaaGreatGTopQueues
import Derived.WalkKit
import Derived.ProofKit
import Derived.OpenShut
import Derived.ShutString
import Derived.ChangeOld
import Derived.Below
namespace Go.Proofs.YtkjdclpneaepkaaGreat.topQueues
open Go Go.ChangeShapes Go.WideShapes Go.ChangeAt Go.RowKit
open Go.ChangeMaps (open_string shut_string)

theorem own : ownKnob Tryz.prog.godebug = none := by kernel_rfl
theorem laidOut : laidOutB Tryz.prog = true := facLaid

set_option linter.unusedVariables false
open Go.Proofs Go.Ev Go.RowKit Qu
set_option maxRecDepth 8000 in
set_option maxHeartbeats 8000000 in
theorem walk (w : World) (a1 : Option Addr) (len1 cap1 : Nat) (z : List Int) (hz : IsRow .i64 w a1 len1 cap1 z) :
    Calls Tryz.prog 11 #[.slice a1 len1 cap1] w fun e w' => e = .returned (.bool true) ∧ Keep NoF w w' := by
  obtain ⟨l, hl, hrow⟩ := open_row hz
  have HA := Lib.hid hrow
  clear hz hrow
  rw [← hl]
  clear hl
  go_enter Tryz.func11, Tryz.ntmps11
  go_wp2_with fail
  refine (begtop w).mono ?_
  rintro e w1 ⟨rfl, hk⟩
  have K1 := Lib.hid hk
  clear hk
  go_wp2_with fail
  refine (new_q every K1.out).mono ?_
  rintro e w2 ⟨v4, rfl, hinv⟩
  have HI := Lib.hid hinv
  clear hinv K1
  go_wp2_with fail
  obtain ⟨gw, hgw⟩ : ∃ gw, w2.heap.size = gw := ⟨_, rfl⟩
  rw [hgw] at HI ⊢
  go_loopw [6, 7] (fun kv iv wr => ∃ (i : Nat) (σ : List Bool) (ts : List Nat) (L : Nat → List Nat), i ≤ l.length ∧ i ≤ 10 ∧ iv = .int .i64 (i : Int) ∧ kv = .int .i64 ((kindsB ts : Nat) : Int) ∧ At i σ ts L ∧ Inv w v4 gw σ ts L wr) (fun _ iv _ => 10 - (intOf iv).toNat)
  case atStart => exact ⟨0, [], [], fun _ => [], Nat.zero_le _, Nat.zero_le _, rfl, rfl, At.zero, HI.out⟩
  case round =>
    obtain ⟨i, σ, ts, L, hil, hi10, rfl, rfl, hat, hinv⟩ := hrel
    have AT := Lib.hid hat; have HV := Lib.hid hinv
    clear hat hinv HI hgw
    have hkb : kindsB ts ≤ 10 := Nat.le_trans (kinds_le ts) (Nat.le_trans AT.out.tl hi10)
    obtain ⟨kd, hkd⟩ : ∃ kd, kindsB ts = kd := ⟨_, rfl⟩
    rw [hkd] at hkb ⊢
    have HKD := Lib.hid hkd
    clear hkd
    go_upto_region 8 with fail
    go_cut [23] from 16 to 69 (fun v wx => v = .bool (decide (i < l.length ∧ i < 10)) ∧ wr = wx)
    case first =>
      by_cases hlt : i < l.length
      · have hlt2 : (i : Int) < l.length := by omega
        have hlt3 : decide ((i : Int) < l.length) = true := by simp [hlt]
        by_cases h8 : i < 10
        · have h8b : (i : Int) < 10 := by omega
          have h8c : decide ((i : Int) < 10) = true := by simp [h8b]
          have HG : Hid (decide (i < l.length ∧ i < 10) = true) := Lib.hid (decide_eq_true ⟨hlt, h8⟩)
          go_wp2_with fail
          go_meet
          exact ⟨by rw [HG.out], rfl⟩
        · have h8b : ¬ (i : Int) < 10 := by omega
          have h8c : decide ((i : Int) < 10) = false := by simp [h8b]
          have HG : Hid (decide (i < l.length ∧ i < 10) = false) := Lib.hid (decide_eq_false fun q => h8 q.2)
          go_wp2_with fail
          go_meet
          exact ⟨by rw [HG.out], rfl⟩
      · have hlt2 : ¬ (i : Int) < l.length := by omega
        have hlt3 : decide ((i : Int) < l.length) = false := by simp [hlt]
        have HG : Hid (decide (i < l.length ∧ i < 10) = false) := Lib.hid (decide_eq_false fun q => hlt q.1)
        go_wp2_with fail
        go_meet
        exact ⟨by rw [HG.out], rfl⟩
    case rest =>
      obtain ⟨hc, hw⟩ := hcut
      subst hc hw
      by_cases hlt : i < l.length ∧ i < 10
      · obtain ⟨hlt1, hlt8⟩ := hlt
        have hd : decide (i < l.length ∧ i < 10) = true := decide_eq_true ⟨hlt1, hlt8⟩
        rw [hd]
        obtain ⟨hwf, g, off, hal, hc⟩ := HA.out i hlt1
        subst hal
        have hc := HV.out.kp.cell' hc (fun f => f)
        obtain ⟨x, hx⟩ : ∃ x, l[i] = x := ⟨_, rfl⟩
        rw [hx] at hc hwf
        have HSM := Lib.hid (small8 x hwf)
        obtain ⟨k, hk⟩ : ∃ k, sm x = k := ⟨_, rfl⟩
        have hk8 : k < 8 := by rw [← hk]; exact sm_lt x
        rw [hk] at HSM
        clear hk hx hwf hd
        have hk8i : (k : Int) < 8 := by omega
        have hw97 : IntKind.i64.wrap (97 + (k : Int)) = 97 + (k : Int) := IntWalk.i64_in _ (by omega)
        have HCV := fun W => conv_q k hk8 W
        go_wp2_with fail
        refine (HSM.out _).mono ?_
        rintro e w5 ⟨rfl, rfl⟩
        go_wp2_with fail
        refine (text_q i hlt8 _).mono ?_
        rintro e w6 ⟨rfl, hk6⟩
        have ka : Keep NoF w5 w6 := ((Keep.refl NoF w5).alloc _).trans' hk6
        have hb6 := heap_new w6 (.cells #[.string (tx i)] 9)
        have ka2 : Keep NoF w5 (w6.alloc (.cells #[.string (tx i)] 9)) := ka.alloc _
        have KA := Lib.hid ka2; have HB6 := Lib.hid hb6; have HSZ := Lib.hid ka.size
        clear ka hb6 ka2 hk6 HCV hc
        have hrc := room_cnt ts k (by have := AT.out.tl; omega)
        rw [HKD.out] at hrc
        have hlk := AT.out.cnt hk8
        obtain ⟨n, hn⟩ : ∃ n, Qu.cnt ts k = n := ⟨_, rfl⟩
        rw [hn] at hrc hlk
        have hn10 : n ≤ 10 := by
          have h1 : Qu.cnt ts k ≤ ts.length := List.length_filter_le _ _
          have := AT.out.tl
          omega
        have HN := Lib.hid hn; have HLK := Lib.hid hlk
        clear hn hlk
        cases hr : roomB ts k with
        | false =>
          have hn0 : ¬ 0 < n := fun q => by rw [if_pos q, hr] at hrc; cases hrc
          have hk6 : ¬ kd < 6 := fun q => by rw [if_neg hn0, hr, decide_eq_true q] at hrc; cases hrc
          obtain ⟨hR, hat⟩ := AT.out.no hlt8 hr
          have AT2 := Lib.hid hat
          go_wp2_with fail
          refine (round_q every HV.out KA.out AT.out.len HSZ.out HB6.out hr hR).mono ?_
          rintro e w7 ⟨rfl, hinv⟩
          have HV7 := Lib.hid hinv
          obtain ⟨ao, cp, hcell⟩ := hinv.at k hk8
          rw [HLK.out] at hcell
          obtain rfl : n = 0 := by omega
          have hk6b : ¬ (kd : Int) < 6 := by omega
          have hk6c : decide ((kd : Int) < 6) = false := by simp; omega
          clear hinv hrc hat hr
          go_wp2_with fail
          exact ⟨⟨i + 1, false :: σ, ts, L, by omega, by omega, by go_num, by rw [HKD.out], AT2.out, HV7.out⟩, by simp [intOf]; omega⟩
        | true =>
          rw [hr] at hrc
          obtain ⟨hR, hat⟩ := AT.out.yes hlt8 hk8
          have AT2 := Lib.hid hat
          have hka := kinds_add ts k
          rw [HN.out, HKD.out] at hka
          have hk8b := hk8
          have HRC := Lib.hid hrc; have HKA0 := Lib.hid hka
          clear hrc hka
          go_wp2_with fail
          refine (round_q every HV.out KA.out AT.out.len HSZ.out HB6.out hr hR).mono ?_
          rintro e w7 ⟨rfl, hinv⟩
          have hinv : Qu.Inv w v4 gw (true :: σ) (ts ++ [k]) L w7 := hinv
          have HV7 := Lib.hid hinv
          obtain ⟨ao, cp, hcell⟩ := hinv.at k hk8
          have HRW := Lib.hid (hinv.row hk8 hcell)
          rw [HLK.out] at hcell HRW
          clear hinv hat hr hR
          by_cases hn0 : 0 < n
          · have hn1 : (0 : Int) < n := by omega
            have hn2 : decide ((0 : Int) < n) = true := by simp; omega
            have hn3 : ((n : Int) == 0) = false := by simp; omega
            have HKA : Hid (kindsB (ts ++ [k]) = kd) := Lib.hid (by rw [HKA0.out, if_pos hn0]; rfl)
            clear HKA0 HRC
            go_upto_region 18 with fail
            refine wp_region_noPanic ?_
            refine wp_region_held_drew (S := (fun _ : World => True)) (by kernel_rfl) (trivial) (fun hHeld => ?_)
            refine wpAnyH_take (i := 0) (oi := ?oq0n1) (v := ?vq0n1) ?hiq0n1 (by kernel_rfl) (by kernel_rfl) (by kernel_rfl) (fun _ _ _ h => h) (Or.inl ⟨?wq0n1, ?yq0n1⟩) (by assumption) ?rq0n1
            case hiq0n1 => (simp only [List.getElem?_toArray, List.getElem?_cons_zero]; try rfl)
            case wq0n1 => rfl
            case yq0n1 => (intro w hSw; (try dsimp only at hSw); go_simp; (try with_reducible rfl))
            (try simp only [Act.put, List.setIfInBounds_toArray, List.set_cons_zero, List.set_cons_succ])
            refine wpAnyH_take (i := 1) (oi := ?oq1n2) (v := ?vq1n2) ?hiq1n2 (by kernel_rfl) (by kernel_rfl) (by kernel_rfl) (fun _ _ _ h => h) (Or.inl ⟨?wq1n2, ?yq1n2⟩) (by assumption) ?rq1n2
            case hiq1n2 => (simp only [List.getElem?_toArray, List.getElem?_cons_succ, List.getElem?_cons_zero]; try rfl)
            case wq1n2 => rfl
            case yq1n2 => (intro w hSw; (try dsimp only at hSw); go_simp; (try with_reducible rfl))
            (try simp only [Act.put, List.setIfInBounds_toArray, List.set_cons_zero, List.set_cons_succ])
            refine wpAnyH_take (i := 2) (oi := ?oq2n3) (v := ?vq2n3) ?hiq2n3 (by kernel_rfl) (by kernel_rfl) (by kernel_rfl) (fun _ _ _ h => h) (Or.inl ⟨?wq2n3, ?yq2n3⟩) (by assumption) ?rq2n3
            case hiq2n3 => (simp only [List.getElem?_toArray, List.getElem?_cons_succ, List.getElem?_cons_zero]; try rfl)
            case wq2n3 => rfl
            case yq2n3 => (intro w hSw; (try dsimp only at hSw); go_simp; (try with_reducible rfl))
            (try simp only [Act.put, List.setIfInBounds_toArray, List.set_cons_zero, List.set_cons_succ])
            refine wpAnyH_take (i := 4) (oi := ?oq4n4) (v := ?vq4n4) ?hiq4n4 (by kernel_rfl) (by kernel_rfl) (by kernel_rfl) (fun _ _ _ h => h) (Or.inl ⟨?wq4n4, ?yq4n4⟩) (by assumption) ?rq4n4
            case hiq4n4 => (simp only [List.getElem?_toArray, List.getElem?_cons_succ, List.getElem?_cons_zero]; try rfl)
            case wq4n4 => rfl
            case yq4n4 => (intro w hSw; (try dsimp only at hSw); go_simp; (try with_reducible rfl))
            (try simp only [Act.put, List.setIfInBounds_toArray, List.set_cons_zero, List.set_cons_succ])
            refine wpAnyH_ready (rs := [3, 5]) (by kernel_rfl) (by simp) ?_
            refine AllReadyH.cons (o := ?oq3n5) ?hiq3n5 (fun K hK => ?mq3n5) ?xq3n5
            case hiq3n5 => (simp only [List.getElem?_toArray, List.getElem?_cons_succ, List.getElem?_cons_zero]; try rfl)
            case mq3n5 =>
              go_simp
              refine hK.out _ _ (trivial) (fun hHeld => ?_)
              clear hK K
              (try simp only [Act.put, List.setIfInBounds_toArray, List.set_cons_zero, List.set_cons_succ])
              refine wpAnyH_ready (rs := [5]) (by kernel_rfl) (by simp) ?_
              refine AllReadyH.cons (o := ?oq5n6) ?hiq5n6 (fun K hK => ?_) AllReadyH.nil
              case hiq5n6 => (simp only [List.getElem?_toArray, List.getElem?_cons_succ, List.getElem?_cons_zero]; try rfl)
              go_simp
              go_at_call 18; refine (text_q i hlt8 _).mono ?_; rintro e w8 ⟨rfl, hk8⟩
              have K8 := Lib.hid ((Keep.refl NoF w7).drew.trans' hk8)
              have hc8 := K8.out.cell' hcell (fun f => f)
              have hc8a := (K8.out.alloc (.cells #[.string (tx i)] 9)).cell' hcell (fun f => f)
              clear hk8
              go_wp2_with fail
              refine hK.out _ _ (trivial) (fun hHeld => ?_)
              clear hK K
              (try simp only [Act.put, List.setIfInBounds_toArray, List.set_cons_zero, List.set_cons_succ])
              refine wpAnyH_ready (rs := [6]) (by kernel_rfl) (by simp) ?_
              refine AllReadyH.cons (o := ?oq6n7) ?hiq6n7 (fun K hK => ?_) AllReadyH.nil
              case hiq6n7 => (simp only [List.getElem?_toArray, List.getElem?_cons_succ, List.getElem?_cons_zero]; try rfl)
              go_simp
              refine hK.out _ _ (trivial) (fun hHeld => ?_)
              clear hK K
              (try simp only [Act.put, List.setIfInBounds_toArray, List.set_cons_zero, List.set_cons_succ])
              refine wpAnyH_ready (rs := [7]) (by kernel_rfl) (by simp) ?_
              refine AllReadyH.cons (o := ?oq7n8) ?hiq7n8 (fun K hK => ?_) AllReadyH.nil
              case hiq7n8 => (simp only [List.getElem?_toArray, List.getElem?_cons_succ, List.getElem?_cons_zero]; try rfl)
              have hka : Keep NoF w7 (w8.alloc (.cells #[.string (tx i)] 9)) := K8.out.alloc _
              have hba := heap_new w8 (.cells #[.string (tx i)] 9)
              have hro := (HRW.out.1.keep hka).1
              rw [HLK.out] at hro
              refine step_app 26 26 9 (.string ByteArray.empty) 1 16 Tryz.underlying26 infoTx rfl (by decide) (by decide) rfl rfl rfl rfl (v := .slice ao n cp) (sv := .slice (some ⟨w8.heap.size, 0, none⟩) 1 1) hro (Src.one Tryz.underlying26 hba rfl 1) (by omega) ?_
              intro ao2 cp2 w9 hown' hgr hown2
              have hnx := HV7.out.more (x := i) (n := n + 1) hk8b hka hcell hgr (by rw [HLK.out]) rfl hown' hown2
              have hgwl := World.block_lt_of_cell? _ _ hcell
              have hne : (Value.slice ao n cp).ownBlock ≠ some gw := fun e => HV7.out.apart hk8b hcell e
              have hc9 : w9.cell? ⟨gw, k, none⟩ = some (.slice ao n cp) := by rw [World.cell?_of_block (w := w7) ((hgr.block gw (Nat.lt_of_lt_of_le hgwl hka.size) (fun e => hne e.symm)).trans (hka.block gw hgwl (fun f => f)))]; exact hcell
              have hf9 : w9.frozen? ⟨gw, k, none⟩ = false := by rw [World.frozen?_of_block (w := w7) ((hgr.block gw (Nat.lt_of_lt_of_le hgwl hka.size) (fun e => hne e.symm)).trans (hka.block gw hgwl (fun f => f)))]; exact HV7.out.free k
              have HNX := Lib.hid hnx
              clear hnx hgwl hne hro hba hka hown' hgr hown2
              refine hK.out _ _ (trivial) (fun hHeld => ?_)
              clear hK K
              (try simp only [Act.put, List.setIfInBounds_toArray, List.set_cons_zero, List.set_cons_succ])
              refine wpAnyH_take (i := 8) (oi := ?oq8n9) (v := ?vq8n9) ?hiq8n9 (by kernel_rfl) (by kernel_rfl) (by kernel_rfl) (fun _ _ _ h => h) (Or.inl ⟨?wq8n9, ?yq8n9⟩) (by assumption) ?rq8n9
              case hiq8n9 => (simp only [List.getElem?_toArray, List.getElem?_cons_succ, List.getElem?_cons_zero]; try rfl)
              case wq8n9 => rfl
              case yq8n9 => (intro w hSw; (try dsimp only at hSw); go_simp; (try with_reducible rfl))
              (try simp only [Act.put, List.setIfInBounds_toArray, List.set_cons_zero, List.set_cons_succ])
              refine wpAnyH_ready (rs := [9]) (by kernel_rfl) (by simp) ?_
              refine AllReadyH.cons (o := ?oq9n10) ?hiq9n10 (fun K hK => ?_) AllReadyH.nil
              case hiq9n10 => (simp only [List.getElem?_toArray, List.getElem?_cons_succ, List.getElem?_cons_zero]; try rfl)
              go_simp
              refine hK.out _ _ (trivial) (fun hHeld => ?_)
              clear hK K
              (try simp only [Act.put, List.setIfInBounds_toArray, List.set_cons_zero, List.set_cons_succ])
              refine wpAnyH_done (by kernel_rfl) ?_ _
              refine NoPanic.normal ?_
              go_wp2_with fail
              exact ⟨⟨i + 1, true :: σ, ts ++ [k], upL L k i, by omega, by omega, by go_num, by rw [HKA.out], AT2.out, HNX.out⟩, by simp [intOf]; omega⟩
            refine AllReadyH.cons (o := ?oq5n11) ?hiq5n11 (fun K hK => ?mq5n11) AllReadyH.nil
            case hiq5n11 => (simp only [List.getElem?_toArray, List.getElem?_cons_succ, List.getElem?_cons_zero]; try rfl)
            case mq5n11 =>
              go_simp
              go_at_call 18; refine (text_q i hlt8 _).mono ?_; rintro e w8 ⟨rfl, hk8⟩
              have K8 := Lib.hid ((Keep.refl NoF w7).drew.trans' hk8)
              have hc8 := K8.out.cell' hcell (fun f => f)
              have hc8a := (K8.out.alloc (.cells #[.string (tx i)] 9)).cell' hcell (fun f => f)
              clear hk8
              go_wp2_with fail
              refine hK.out _ _ (trivial) (fun hHeld => ?_)
              clear hK K
              (try simp only [Act.put, List.setIfInBounds_toArray, List.set_cons_zero, List.set_cons_succ])
              refine wpAnyH_ready (rs := [3, 6]) (by kernel_rfl) (by simp) ?_
              refine AllReadyH.cons (o := ?oq3n12) ?hiq3n12 (fun K hK => ?mq3n12) ?xq3n12
              case hiq3n12 => (simp only [List.getElem?_toArray, List.getElem?_cons_succ, List.getElem?_cons_zero]; try rfl)
              case mq3n12 =>
                go_simp
                refine hK.out _ _ (trivial) (fun hHeld => ?_)
                clear hK K
                (try simp only [Act.put, List.setIfInBounds_toArray, List.set_cons_zero, List.set_cons_succ])
                refine wpAnyH_ready (rs := [6]) (by kernel_rfl) (by simp) ?_
                refine AllReadyH.cons (o := ?oq6n13) ?hiq6n13 (fun K hK => ?_) AllReadyH.nil
                case hiq6n13 => (simp only [List.getElem?_toArray, List.getElem?_cons_succ, List.getElem?_cons_zero]; try rfl)
                go_simp
                refine hK.out _ _ (trivial) (fun hHeld => ?_)
                clear hK K
                (try simp only [Act.put, List.setIfInBounds_toArray, List.set_cons_zero, List.set_cons_succ])
                refine wpAnyH_ready (rs := [7]) (by kernel_rfl) (by simp) ?_
                refine AllReadyH.cons (o := ?oq7n14) ?hiq7n14 (fun K hK => ?_) AllReadyH.nil
                case hiq7n14 => (simp only [List.getElem?_toArray, List.getElem?_cons_succ, List.getElem?_cons_zero]; try rfl)
                have hka : Keep NoF w7 (w8.alloc (.cells #[.string (tx i)] 9)) := K8.out.alloc _
                have hba := heap_new w8 (.cells #[.string (tx i)] 9)
                have hro := (HRW.out.1.keep hka).1
                rw [HLK.out] at hro
                refine step_app 26 26 9 (.string ByteArray.empty) 1 16 Tryz.underlying26 infoTx rfl (by decide) (by decide) rfl rfl rfl rfl (v := .slice ao n cp) (sv := .slice (some ⟨w8.heap.size, 0, none⟩) 1 1) hro (Src.one Tryz.underlying26 hba rfl 1) (by omega) ?_
                intro ao2 cp2 w9 hown' hgr hown2
                have hnx := HV7.out.more (x := i) (n := n + 1) hk8b hka hcell hgr (by rw [HLK.out]) rfl hown' hown2
                have hgwl := World.block_lt_of_cell? _ _ hcell
                have hne : (Value.slice ao n cp).ownBlock ≠ some gw := fun e => HV7.out.apart hk8b hcell e
                have hc9 : w9.cell? ⟨gw, k, none⟩ = some (.slice ao n cp) := by rw [World.cell?_of_block (w := w7) ((hgr.block gw (Nat.lt_of_lt_of_le hgwl hka.size) (fun e => hne e.symm)).trans (hka.block gw hgwl (fun f => f)))]; exact hcell
                have hf9 : w9.frozen? ⟨gw, k, none⟩ = false := by rw [World.frozen?_of_block (w := w7) ((hgr.block gw (Nat.lt_of_lt_of_le hgwl hka.size) (fun e => hne e.symm)).trans (hka.block gw hgwl (fun f => f)))]; exact HV7.out.free k
                have HNX := Lib.hid hnx
                clear hnx hgwl hne hro hba hka hown' hgr hown2
                refine hK.out _ _ (trivial) (fun hHeld => ?_)
                clear hK K
                (try simp only [Act.put, List.setIfInBounds_toArray, List.set_cons_zero, List.set_cons_succ])
                refine wpAnyH_take (i := 8) (oi := ?oq8n15) (v := ?vq8n15) ?hiq8n15 (by kernel_rfl) (by kernel_rfl) (by kernel_rfl) (fun _ _ _ h => h) (Or.inl ⟨?wq8n15, ?yq8n15⟩) (by assumption) ?rq8n15
                case hiq8n15 => (simp only [List.getElem?_toArray, List.getElem?_cons_succ, List.getElem?_cons_zero]; try rfl)
                case wq8n15 => rfl
                case yq8n15 => (intro w hSw; (try dsimp only at hSw); go_simp; (try with_reducible rfl))
                (try simp only [Act.put, List.setIfInBounds_toArray, List.set_cons_zero, List.set_cons_succ])
                refine wpAnyH_ready (rs := [9]) (by kernel_rfl) (by simp) ?_
                refine AllReadyH.cons (o := ?oq9n16) ?hiq9n16 (fun K hK => ?_) AllReadyH.nil
                case hiq9n16 => (simp only [List.getElem?_toArray, List.getElem?_cons_succ, List.getElem?_cons_zero]; try rfl)
                go_simp
                refine hK.out _ _ (trivial) (fun hHeld => ?_)
                clear hK K
                (try simp only [Act.put, List.setIfInBounds_toArray, List.set_cons_zero, List.set_cons_succ])
                refine wpAnyH_done (by kernel_rfl) ?_ _
                refine NoPanic.normal ?_
                go_wp2_with fail
                exact ⟨⟨i + 1, true :: σ, ts ++ [k], upL L k i, by omega, by omega, by go_num, by rw [HKA.out], AT2.out, HNX.out⟩, by simp [intOf]; omega⟩
              refine AllReadyH.cons (o := ?oq6n17) ?hiq6n17 (fun K hK => ?mq6n17) AllReadyH.nil
              case hiq6n17 => (simp only [List.getElem?_toArray, List.getElem?_cons_succ, List.getElem?_cons_zero]; try rfl)
              case mq6n17 =>
                go_simp
                refine hK.out _ _ (trivial) (fun hHeld => ?_)
                clear hK K
                (try simp only [Act.put, List.setIfInBounds_toArray, List.set_cons_zero, List.set_cons_succ])
                refine wpAnyH_ready (rs := [3]) (by kernel_rfl) (by simp) ?_
                refine AllReadyH.cons (o := ?oq3n18) ?hiq3n18 (fun K hK => ?_) AllReadyH.nil
                case hiq3n18 => (simp only [List.getElem?_toArray, List.getElem?_cons_succ, List.getElem?_cons_zero]; try rfl)
                go_simp
                refine hK.out _ _ (trivial) (fun hHeld => ?_)
                clear hK K
                (try simp only [Act.put, List.setIfInBounds_toArray, List.set_cons_zero, List.set_cons_succ])
                refine wpAnyH_ready (rs := [7]) (by kernel_rfl) (by simp) ?_
                refine AllReadyH.cons (o := ?oq7n19) ?hiq7n19 (fun K hK => ?_) AllReadyH.nil
                case hiq7n19 => (simp only [List.getElem?_toArray, List.getElem?_cons_succ, List.getElem?_cons_zero]; try rfl)
                have hka : Keep NoF w7 (w8.alloc (.cells #[.string (tx i)] 9)) := K8.out.alloc _
                have hba := heap_new w8 (.cells #[.string (tx i)] 9)
                have hro := (HRW.out.1.keep hka).1
                rw [HLK.out] at hro
                refine step_app 26 26 9 (.string ByteArray.empty) 1 16 Tryz.underlying26 infoTx rfl (by decide) (by decide) rfl rfl rfl rfl (v := .slice ao n cp) (sv := .slice (some ⟨w8.heap.size, 0, none⟩) 1 1) hro (Src.one Tryz.underlying26 hba rfl 1) (by omega) ?_
                intro ao2 cp2 w9 hown' hgr hown2
                have hnx := HV7.out.more (x := i) (n := n + 1) hk8b hka hcell hgr (by rw [HLK.out]) rfl hown' hown2
                have hgwl := World.block_lt_of_cell? _ _ hcell
                have hne : (Value.slice ao n cp).ownBlock ≠ some gw := fun e => HV7.out.apart hk8b hcell e
                have hc9 : w9.cell? ⟨gw, k, none⟩ = some (.slice ao n cp) := by rw [World.cell?_of_block (w := w7) ((hgr.block gw (Nat.lt_of_lt_of_le hgwl hka.size) (fun e => hne e.symm)).trans (hka.block gw hgwl (fun f => f)))]; exact hcell
                have hf9 : w9.frozen? ⟨gw, k, none⟩ = false := by rw [World.frozen?_of_block (w := w7) ((hgr.block gw (Nat.lt_of_lt_of_le hgwl hka.size) (fun e => hne e.symm)).trans (hka.block gw hgwl (fun f => f)))]; exact HV7.out.free k
                have HNX := Lib.hid hnx
                clear hnx hgwl hne hro hba hka hown' hgr hown2
                refine hK.out _ _ (trivial) (fun hHeld => ?_)
                clear hK K
                (try simp only [Act.put, List.setIfInBounds_toArray, List.set_cons_zero, List.set_cons_succ])
                refine wpAnyH_take (i := 8) (oi := ?oq8n20) (v := ?vq8n20) ?hiq8n20 (by kernel_rfl) (by kernel_rfl) (by kernel_rfl) (fun _ _ _ h => h) (Or.inl ⟨?wq8n20, ?yq8n20⟩) (by assumption) ?rq8n20
                case hiq8n20 => (simp only [List.getElem?_toArray, List.getElem?_cons_succ, List.getElem?_cons_zero]; try rfl)
                case wq8n20 => rfl
                case yq8n20 => (intro w hSw; (try dsimp only at hSw); go_simp; (try with_reducible rfl))
                (try simp only [Act.put, List.setIfInBounds_toArray, List.set_cons_zero, List.set_cons_succ])
                refine wpAnyH_ready (rs := [9]) (by kernel_rfl) (by simp) ?_
                refine AllReadyH.cons (o := ?oq9n21) ?hiq9n21 (fun K hK => ?_) AllReadyH.nil
                case hiq9n21 => (simp only [List.getElem?_toArray, List.getElem?_cons_succ, List.getElem?_cons_zero]; try rfl)
                go_simp
                refine hK.out _ _ (trivial) (fun hHeld => ?_)
                clear hK K
                (try simp only [Act.put, List.setIfInBounds_toArray, List.set_cons_zero, List.set_cons_succ])
                refine wpAnyH_done (by kernel_rfl) ?_ _
                refine NoPanic.normal ?_
                go_wp2_with fail
                exact ⟨⟨i + 1, true :: σ, ts ++ [k], upL L k i, by omega, by omega, by go_num, by rw [HKA.out], AT2.out, HNX.out⟩, by simp [intOf]; omega⟩
          · obtain rfl : n = 0 := by omega
            have HKA : Hid (kindsB (ts ++ [k]) = kd + 1) := Lib.hid (by rw [HKA0.out, if_neg hn0])
            have hk6 : kd < 6 := by
              have hrc := HRC.out
              rw [if_neg hn0] at hrc
              exact of_decide_eq_true hrc.symm
            have hk6b : (kd : Int) < 6 := by omega
            have hk6c : decide ((kd : Int) < 6) = true := by simp; omega
            clear HKA0 HRC
            go_upto_region 18 with fail
            refine wp_region_noPanic ?_
            refine wp_region_held_drew (S := (fun _ : World => True)) (by kernel_rfl) (trivial) (fun hHeld => ?_)
            refine wpAnyH_take (i := 0) (oi := ?oq0n22) (v := ?vq0n22) ?hiq0n22 (by kernel_rfl) (by kernel_rfl) (by kernel_rfl) (fun _ _ _ h => h) (Or.inl ⟨?wq0n22, ?yq0n22⟩) (by assumption) ?rq0n22
            case hiq0n22 => (simp only [List.getElem?_toArray, List.getElem?_cons_zero]; try rfl)
            case wq0n22 => rfl
            case yq0n22 => (intro w hSw; (try dsimp only at hSw); go_simp; (try with_reducible rfl))
            (try simp only [Act.put, List.setIfInBounds_toArray, List.set_cons_zero, List.set_cons_succ])
            refine wpAnyH_take (i := 1) (oi := ?oq1n23) (v := ?vq1n23) ?hiq1n23 (by kernel_rfl) (by kernel_rfl) (by kernel_rfl) (fun _ _ _ h => h) (Or.inl ⟨?wq1n23, ?yq1n23⟩) (by assumption) ?rq1n23
            case hiq1n23 => (simp only [List.getElem?_toArray, List.getElem?_cons_succ, List.getElem?_cons_zero]; try rfl)
            case wq1n23 => rfl
            case yq1n23 => (intro w hSw; (try dsimp only at hSw); go_simp; (try with_reducible rfl))
            (try simp only [Act.put, List.setIfInBounds_toArray, List.set_cons_zero, List.set_cons_succ])
            refine wpAnyH_take (i := 2) (oi := ?oq2n24) (v := ?vq2n24) ?hiq2n24 (by kernel_rfl) (by kernel_rfl) (by kernel_rfl) (fun _ _ _ h => h) (Or.inl ⟨?wq2n24, ?yq2n24⟩) (by assumption) ?rq2n24
            case hiq2n24 => (simp only [List.getElem?_toArray, List.getElem?_cons_succ, List.getElem?_cons_zero]; try rfl)
            case wq2n24 => rfl
            case yq2n24 => (intro w hSw; (try dsimp only at hSw); go_simp; (try with_reducible rfl))
            (try simp only [Act.put, List.setIfInBounds_toArray, List.set_cons_zero, List.set_cons_succ])
            refine wpAnyH_take (i := 4) (oi := ?oq4n25) (v := ?vq4n25) ?hiq4n25 (by kernel_rfl) (by kernel_rfl) (by kernel_rfl) (fun _ _ _ h => h) (Or.inl ⟨?wq4n25, ?yq4n25⟩) (by assumption) ?rq4n25
            case hiq4n25 => (simp only [List.getElem?_toArray, List.getElem?_cons_succ, List.getElem?_cons_zero]; try rfl)
            case wq4n25 => rfl
            case yq4n25 => (intro w hSw; (try dsimp only at hSw); go_simp; (try with_reducible rfl))
            (try simp only [Act.put, List.setIfInBounds_toArray, List.set_cons_zero, List.set_cons_succ])
            refine wpAnyH_ready (rs := [3, 5]) (by kernel_rfl) (by simp) ?_
            refine AllReadyH.cons (o := ?oq3n26) ?hiq3n26 (fun K hK => ?mq3n26) ?xq3n26
            case hiq3n26 => (simp only [List.getElem?_toArray, List.getElem?_cons_succ, List.getElem?_cons_zero]; try rfl)
            case mq3n26 =>
              go_simp
              refine hK.out _ _ (trivial) (fun hHeld => ?_)
              clear hK K
              (try simp only [Act.put, List.setIfInBounds_toArray, List.set_cons_zero, List.set_cons_succ])
              refine wpAnyH_ready (rs := [5]) (by kernel_rfl) (by simp) ?_
              refine AllReadyH.cons (o := ?oq5n27) ?hiq5n27 (fun K hK => ?_) AllReadyH.nil
              case hiq5n27 => (simp only [List.getElem?_toArray, List.getElem?_cons_succ, List.getElem?_cons_zero]; try rfl)
              go_simp
              go_at_call 18; refine (text_q i hlt8 _).mono ?_; rintro e w8 ⟨rfl, hk8⟩
              have K8 := Lib.hid ((Keep.refl NoF w7).drew.trans' hk8)
              have hc8 := K8.out.cell' hcell (fun f => f)
              have hc8a := (K8.out.alloc (.cells #[.string (tx i)] 9)).cell' hcell (fun f => f)
              clear hk8
              go_wp2_with fail
              refine hK.out _ _ (trivial) (fun hHeld => ?_)
              clear hK K
              (try simp only [Act.put, List.setIfInBounds_toArray, List.set_cons_zero, List.set_cons_succ])
              refine wpAnyH_ready (rs := [6]) (by kernel_rfl) (by simp) ?_
              refine AllReadyH.cons (o := ?oq6n28) ?hiq6n28 (fun K hK => ?_) AllReadyH.nil
              case hiq6n28 => (simp only [List.getElem?_toArray, List.getElem?_cons_succ, List.getElem?_cons_zero]; try rfl)
              go_simp
              refine hK.out _ _ (trivial) (fun hHeld => ?_)
              clear hK K
              (try simp only [Act.put, List.setIfInBounds_toArray, List.set_cons_zero, List.set_cons_succ])
              refine wpAnyH_ready (rs := [7]) (by kernel_rfl) (by simp) ?_
              refine AllReadyH.cons (o := ?oq7n29) ?hiq7n29 (fun K hK => ?_) AllReadyH.nil
              case hiq7n29 => (simp only [List.getElem?_toArray, List.getElem?_cons_succ, List.getElem?_cons_zero]; try rfl)
              have hka : Keep NoF w7 (w8.alloc (.cells #[.string (tx i)] 9)) := K8.out.alloc _
              have hba := heap_new w8 (.cells #[.string (tx i)] 9)
              have hro := (HRW.out.1.keep hka).1
              rw [HLK.out] at hro
              refine step_app 26 26 9 (.string ByteArray.empty) 1 16 Tryz.underlying26 infoTx rfl (by decide) (by decide) rfl rfl rfl rfl (v := .slice ao 0 cp) (sv := .slice (some ⟨w8.heap.size, 0, none⟩) 1 1) hro (Src.one Tryz.underlying26 hba rfl 1) (by omega) ?_
              intro ao2 cp2 w9 hown' hgr hown2
              have hnx := HV7.out.more (x := i) (n := 0 + 1) hk8b hka hcell hgr (by rw [HLK.out]) rfl hown' hown2
              have hgwl := World.block_lt_of_cell? _ _ hcell
              have hne : (Value.slice ao 0 cp).ownBlock ≠ some gw := fun e => HV7.out.apart hk8b hcell e
              have hc9 : w9.cell? ⟨gw, k, none⟩ = some (.slice ao 0 cp) := by rw [World.cell?_of_block (w := w7) ((hgr.block gw (Nat.lt_of_lt_of_le hgwl hka.size) (fun e => hne e.symm)).trans (hka.block gw hgwl (fun f => f)))]; exact hcell
              have hf9 : w9.frozen? ⟨gw, k, none⟩ = false := by rw [World.frozen?_of_block (w := w7) ((hgr.block gw (Nat.lt_of_lt_of_le hgwl hka.size) (fun e => hne e.symm)).trans (hka.block gw hgwl (fun f => f)))]; exact HV7.out.free k
              have HNX := Lib.hid hnx
              clear hnx hgwl hne hro hba hka hown' hgr hown2
              refine hK.out _ _ (trivial) (fun hHeld => ?_)
              clear hK K
              (try simp only [Act.put, List.setIfInBounds_toArray, List.set_cons_zero, List.set_cons_succ])
              refine wpAnyH_take (i := 8) (oi := ?oq8n30) (v := ?vq8n30) ?hiq8n30 (by kernel_rfl) (by kernel_rfl) (by kernel_rfl) (fun _ _ _ h => h) (Or.inl ⟨?wq8n30, ?yq8n30⟩) (by assumption) ?rq8n30
              case hiq8n30 => (simp only [List.getElem?_toArray, List.getElem?_cons_succ, List.getElem?_cons_zero]; try rfl)
              case wq8n30 => rfl
              case yq8n30 => (intro w hSw; (try dsimp only at hSw); go_simp; (try with_reducible rfl))
              (try simp only [Act.put, List.setIfInBounds_toArray, List.set_cons_zero, List.set_cons_succ])
              refine wpAnyH_ready (rs := [9]) (by kernel_rfl) (by simp) ?_
              refine AllReadyH.cons (o := ?oq9n31) ?hiq9n31 (fun K hK => ?_) AllReadyH.nil
              case hiq9n31 => (simp only [List.getElem?_toArray, List.getElem?_cons_succ, List.getElem?_cons_zero]; try rfl)
              go_simp
              refine hK.out _ _ (trivial) (fun hHeld => ?_)
              clear hK K
              (try simp only [Act.put, List.setIfInBounds_toArray, List.set_cons_zero, List.set_cons_succ])
              refine wpAnyH_done (by kernel_rfl) ?_ _
              refine NoPanic.normal ?_
              go_wp2_with fail
              exact ⟨⟨i + 1, true :: σ, ts ++ [k], upL L k i, by omega, by omega, by go_num, by rw [HKA.out]; go_num, AT2.out, HNX.out⟩, by simp [intOf]; omega⟩
            refine AllReadyH.cons (o := ?oq5n32) ?hiq5n32 (fun K hK => ?mq5n32) AllReadyH.nil
            case hiq5n32 => (simp only [List.getElem?_toArray, List.getElem?_cons_succ, List.getElem?_cons_zero]; try rfl)
            case mq5n32 =>
              go_simp
              go_at_call 18; refine (text_q i hlt8 _).mono ?_; rintro e w8 ⟨rfl, hk8⟩
              have K8 := Lib.hid ((Keep.refl NoF w7).drew.trans' hk8)
              have hc8 := K8.out.cell' hcell (fun f => f)
              have hc8a := (K8.out.alloc (.cells #[.string (tx i)] 9)).cell' hcell (fun f => f)
              clear hk8
              go_wp2_with fail
              refine hK.out _ _ (trivial) (fun hHeld => ?_)
              clear hK K
              (try simp only [Act.put, List.setIfInBounds_toArray, List.set_cons_zero, List.set_cons_succ])
              refine wpAnyH_ready (rs := [3, 6]) (by kernel_rfl) (by simp) ?_
              refine AllReadyH.cons (o := ?oq3n33) ?hiq3n33 (fun K hK => ?mq3n33) ?xq3n33
              case hiq3n33 => (simp only [List.getElem?_toArray, List.getElem?_cons_succ, List.getElem?_cons_zero]; try rfl)
              case mq3n33 =>
                go_simp
                refine hK.out _ _ (trivial) (fun hHeld => ?_)
                clear hK K
                (try simp only [Act.put, List.setIfInBounds_toArray, List.set_cons_zero, List.set_cons_succ])
                refine wpAnyH_ready (rs := [6]) (by kernel_rfl) (by simp) ?_
                refine AllReadyH.cons (o := ?oq6n34) ?hiq6n34 (fun K hK => ?_) AllReadyH.nil
                case hiq6n34 => (simp only [List.getElem?_toArray, List.getElem?_cons_succ, List.getElem?_cons_zero]; try rfl)
                go_simp
                refine hK.out _ _ (trivial) (fun hHeld => ?_)
                clear hK K
                (try simp only [Act.put, List.setIfInBounds_toArray, List.set_cons_zero, List.set_cons_succ])
                refine wpAnyH_ready (rs := [7]) (by kernel_rfl) (by simp) ?_
                refine AllReadyH.cons (o := ?oq7n35) ?hiq7n35 (fun K hK => ?_) AllReadyH.nil
                case hiq7n35 => (simp only [List.getElem?_toArray, List.getElem?_cons_succ, List.getElem?_cons_zero]; try rfl)
                have hka : Keep NoF w7 (w8.alloc (.cells #[.string (tx i)] 9)) := K8.out.alloc _
                have hba := heap_new w8 (.cells #[.string (tx i)] 9)
                have hro := (HRW.out.1.keep hka).1
                rw [HLK.out] at hro
                refine step_app 26 26 9 (.string ByteArray.empty) 1 16 Tryz.underlying26 infoTx rfl (by decide) (by decide) rfl rfl rfl rfl (v := .slice ao 0 cp) (sv := .slice (some ⟨w8.heap.size, 0, none⟩) 1 1) hro (Src.one Tryz.underlying26 hba rfl 1) (by omega) ?_
                intro ao2 cp2 w9 hown' hgr hown2
                have hnx := HV7.out.more (x := i) (n := 0 + 1) hk8b hka hcell hgr (by rw [HLK.out]) rfl hown' hown2
                have hgwl := World.block_lt_of_cell? _ _ hcell
                have hne : (Value.slice ao 0 cp).ownBlock ≠ some gw := fun e => HV7.out.apart hk8b hcell e
                have hc9 : w9.cell? ⟨gw, k, none⟩ = some (.slice ao 0 cp) := by rw [World.cell?_of_block (w := w7) ((hgr.block gw (Nat.lt_of_lt_of_le hgwl hka.size) (fun e => hne e.symm)).trans (hka.block gw hgwl (fun f => f)))]; exact hcell
                have hf9 : w9.frozen? ⟨gw, k, none⟩ = false := by rw [World.frozen?_of_block (w := w7) ((hgr.block gw (Nat.lt_of_lt_of_le hgwl hka.size) (fun e => hne e.symm)).trans (hka.block gw hgwl (fun f => f)))]; exact HV7.out.free k
                have HNX := Lib.hid hnx
                clear hnx hgwl hne hro hba hka hown' hgr hown2
                refine hK.out _ _ (trivial) (fun hHeld => ?_)
                clear hK K
                (try simp only [Act.put, List.setIfInBounds_toArray, List.set_cons_zero, List.set_cons_succ])
                refine wpAnyH_take (i := 8) (oi := ?oq8n36) (v := ?vq8n36) ?hiq8n36 (by kernel_rfl) (by kernel_rfl) (by kernel_rfl) (fun _ _ _ h => h) (Or.inl ⟨?wq8n36, ?yq8n36⟩) (by assumption) ?rq8n36
                case hiq8n36 => (simp only [List.getElem?_toArray, List.getElem?_cons_succ, List.getElem?_cons_zero]; try rfl)
                case wq8n36 => rfl
                case yq8n36 => (intro w hSw; (try dsimp only at hSw); go_simp; (try with_reducible rfl))
                (try simp only [Act.put, List.setIfInBounds_toArray, List.set_cons_zero, List.set_cons_succ])
                refine wpAnyH_ready (rs := [9]) (by kernel_rfl) (by simp) ?_
                refine AllReadyH.cons (o := ?oq9n37) ?hiq9n37 (fun K hK => ?_) AllReadyH.nil
                case hiq9n37 => (simp only [List.getElem?_toArray, List.getElem?_cons_succ, List.getElem?_cons_zero]; try rfl)
                go_simp
                refine hK.out _ _ (trivial) (fun hHeld => ?_)
                clear hK K
                (try simp only [Act.put, List.setIfInBounds_toArray, List.set_cons_zero, List.set_cons_succ])
                refine wpAnyH_done (by kernel_rfl) ?_ _
                refine NoPanic.normal ?_
                go_wp2_with fail
                exact ⟨⟨i + 1, true :: σ, ts ++ [k], upL L k i, by omega, by omega, by go_num, by rw [HKA.out]; go_num, AT2.out, HNX.out⟩, by simp [intOf]; omega⟩
              refine AllReadyH.cons (o := ?oq6n38) ?hiq6n38 (fun K hK => ?mq6n38) AllReadyH.nil
              case hiq6n38 => (simp only [List.getElem?_toArray, List.getElem?_cons_succ, List.getElem?_cons_zero]; try rfl)
              case mq6n38 =>
                go_simp
                refine hK.out _ _ (trivial) (fun hHeld => ?_)
                clear hK K
                (try simp only [Act.put, List.setIfInBounds_toArray, List.set_cons_zero, List.set_cons_succ])
                refine wpAnyH_ready (rs := [3]) (by kernel_rfl) (by simp) ?_
                refine AllReadyH.cons (o := ?oq3n39) ?hiq3n39 (fun K hK => ?_) AllReadyH.nil
                case hiq3n39 => (simp only [List.getElem?_toArray, List.getElem?_cons_succ, List.getElem?_cons_zero]; try rfl)
                go_simp
                refine hK.out _ _ (trivial) (fun hHeld => ?_)
                clear hK K
                (try simp only [Act.put, List.setIfInBounds_toArray, List.set_cons_zero, List.set_cons_succ])
                refine wpAnyH_ready (rs := [7]) (by kernel_rfl) (by simp) ?_
                refine AllReadyH.cons (o := ?oq7n40) ?hiq7n40 (fun K hK => ?_) AllReadyH.nil
                case hiq7n40 => (simp only [List.getElem?_toArray, List.getElem?_cons_succ, List.getElem?_cons_zero]; try rfl)
                have hka : Keep NoF w7 (w8.alloc (.cells #[.string (tx i)] 9)) := K8.out.alloc _
                have hba := heap_new w8 (.cells #[.string (tx i)] 9)
                have hro := (HRW.out.1.keep hka).1
                rw [HLK.out] at hro
                refine step_app 26 26 9 (.string ByteArray.empty) 1 16 Tryz.underlying26 infoTx rfl (by decide) (by decide) rfl rfl rfl rfl (v := .slice ao 0 cp) (sv := .slice (some ⟨w8.heap.size, 0, none⟩) 1 1) hro (Src.one Tryz.underlying26 hba rfl 1) (by omega) ?_
                intro ao2 cp2 w9 hown' hgr hown2
                have hnx := HV7.out.more (x := i) (n := 0 + 1) hk8b hka hcell hgr (by rw [HLK.out]) rfl hown' hown2
                have hgwl := World.block_lt_of_cell? _ _ hcell
                have hne : (Value.slice ao 0 cp).ownBlock ≠ some gw := fun e => HV7.out.apart hk8b hcell e
                have hc9 : w9.cell? ⟨gw, k, none⟩ = some (.slice ao 0 cp) := by rw [World.cell?_of_block (w := w7) ((hgr.block gw (Nat.lt_of_lt_of_le hgwl hka.size) (fun e => hne e.symm)).trans (hka.block gw hgwl (fun f => f)))]; exact hcell
                have hf9 : w9.frozen? ⟨gw, k, none⟩ = false := by rw [World.frozen?_of_block (w := w7) ((hgr.block gw (Nat.lt_of_lt_of_le hgwl hka.size) (fun e => hne e.symm)).trans (hka.block gw hgwl (fun f => f)))]; exact HV7.out.free k
                have HNX := Lib.hid hnx
                clear hnx hgwl hne hro hba hka hown' hgr hown2
                refine hK.out _ _ (trivial) (fun hHeld => ?_)
                clear hK K
                (try simp only [Act.put, List.setIfInBounds_toArray, List.set_cons_zero, List.set_cons_succ])
                refine wpAnyH_take (i := 8) (oi := ?oq8n41) (v := ?vq8n41) ?hiq8n41 (by kernel_rfl) (by kernel_rfl) (by kernel_rfl) (fun _ _ _ h => h) (Or.inl ⟨?wq8n41, ?yq8n41⟩) (by assumption) ?rq8n41
                case hiq8n41 => (simp only [List.getElem?_toArray, List.getElem?_cons_succ, List.getElem?_cons_zero]; try rfl)
                case wq8n41 => rfl
                case yq8n41 => (intro w hSw; (try dsimp only at hSw); go_simp; (try with_reducible rfl))
                (try simp only [Act.put, List.setIfInBounds_toArray, List.set_cons_zero, List.set_cons_succ])
                refine wpAnyH_ready (rs := [9]) (by kernel_rfl) (by simp) ?_
                refine AllReadyH.cons (o := ?oq9n42) ?hiq9n42 (fun K hK => ?_) AllReadyH.nil
                case hiq9n42 => (simp only [List.getElem?_toArray, List.getElem?_cons_succ, List.getElem?_cons_zero]; try rfl)
                go_simp
                refine hK.out _ _ (trivial) (fun hHeld => ?_)
                clear hK K
                (try simp only [Act.put, List.setIfInBounds_toArray, List.set_cons_zero, List.set_cons_succ])
                refine wpAnyH_done (by kernel_rfl) ?_ _
                refine NoPanic.normal ?_
                go_wp2_with fail
                exact ⟨⟨i + 1, true :: σ, ts ++ [k], upL L k i, by omega, by omega, by go_num, by rw [HKA.out]; go_num, AT2.out, HNX.out⟩, by simp [intOf]; omega⟩
      · have hd : decide (i < l.length ∧ i < 10) = false := decide_eq_false hlt
        rw [hd]
        have HI2 := Lib.hid (HV.out.two every AT.out.rch)
        have HIL : Hid ((ins σ).length ≤ 10) := Lib.hid (by have := AT.out.il; have := AT.out.tl; omega)
        clear hd hlt
        go_wp2_with fail
        go_loopw [11] (fun kv wr => ∃ k : Nat, k ≤ 8 ∧ kv = .int .i64 (k : Int) ∧ Inv2 w v4 gw (ins σ) ts L (8 - k) wr) (fun kv _ => 8 - (intOf kv).toNat)
        case atStart => exact ⟨0, Nat.zero_le _, rfl, HI2.out⟩
        case round =>
          obtain ⟨k, hk8, rfl, hinv2⟩ := hrel
          have HV2 := Lib.hid hinv2
          clear hinv2 HI2
          by_cases hlt : k < 8
          · have hlt2 : (k : Int) < 8 := by omega
            have hlt3 : decide ((k : Int) < 8) = true := by simp; omega
            have hw97 : IntKind.i64.wrap (97 + (k : Int)) = 97 + (k : Int) := IntWalk.i64_in _ (by omega)
            obtain ⟨v, hcell, -⟩ := HV2.out.at k hlt
            have hk8i : (k : Int) < 8 := by omega
            have hw8 : IntKind.u8.wrap (97 + (k : Int)) = 97 + (k : Int) := IntWalk.u8_in _ (by omega)
            have hcv0 := conv_q k hlt wr
            have HCV : (convert 71 9 (.slice (some ⟨wr.heap.size, 0, none⟩) 2 2)).run Tryz.prog (wr.alloc (.cells #[.int .u8 113, .int .u8 (97 + (k : Int))] 5)).drew = .ok (.string (qn k)) (wr.alloc (.cells #[.int .u8 113, .int .u8 (97 + (k : Int))] 5)).drew := conv_q k hlt wr.drew
            have KA := Lib.hid (((Keep.refl NoF wr).alloc (.cells #[.int .u8 113, .int .u8 (97 + (k : Int))] 5)).drew)
            clear hcv0
            have HLT : Hid (((of1 (ins σ) ts k).map tx).length ≤ 1000) := Lib.hid (by
              rw [List.length_map]
              unfold of1
              rw [List.length_map]
              refine Nat.le_trans (List.length_filter_le _ _) ?_
              have := HIL.out
              simp; omega)
            have HSV : Hid (∀ W, Inv2 w v4 gw (ins σ) ts L (7 - k) W → W.cell? ⟨gw, k, none⟩ = some v → SlT W v ((of1 (ins σ) ts k).map tx)) := Lib.hid fun W hI hc => by
              obtain ⟨v', hc', hs'⟩ := hI.at k hlt
              rw [hc] at hc'
              cases hc'
              rw [← AT.out.row k hlt]; exact hs'
            go_upto_region 22 with fail
            refine wp_region_noPanic ?_
            refine wp_region_held_drew (S := fun W' : World => W'.cell? ⟨gw, k, none⟩ = some v) (by kernel_rfl) hcell (fun hHeld => ?_)
            refine wpAnyH_take (i := 0) (oi := ?oz0) (v := ?vz0) ?hiz0 (by kernel_rfl) (by kernel_rfl) (by kernel_rfl) (fun _ _ _ h => h) (Or.inl ⟨?wz0, ?yz0⟩) (by assumption) ?rz0
            case hiz0 => (simp only [List.getElem?_toArray, List.getElem?_cons_zero]; try rfl)
            case wz0 => rfl
            case yz0 => (intro w hSw; (try dsimp only at hSw); go_simp; (try with_reducible rfl))
            (try simp only [Act.put, List.setIfInBounds_toArray, List.set_cons_zero, List.set_cons_succ])
            refine wpAnyH_take (i := 1) (oi := ?oz1) (v := ?vz1) ?hiz1 (by kernel_rfl) (by kernel_rfl) (by kernel_rfl) (fun _ _ _ h => h) (Or.inl ⟨?wz1, ?yz1⟩) (by assumption) ?rz1
            case hiz1 => (simp only [List.getElem?_toArray, List.getElem?_cons_succ, List.getElem?_cons_zero]; try rfl)
            case wz1 => rfl
            case yz1 => (intro w hSw; (try dsimp only at hSw); go_simp; (try with_reducible rfl))
            (try simp only [Act.put, List.setIfInBounds_toArray, List.set_cons_zero, List.set_cons_succ])
            refine wpAnyH_take (i := 2) (oi := ?oz2) (v := ?vz2) ?hiz2 (by kernel_rfl) (by kernel_rfl) (by kernel_rfl) (fun _ _ _ h => h) (Or.inl ⟨?wz2, ?yz2⟩) (by assumption) ?rz2
            case hiz2 => (simp only [List.getElem?_toArray, List.getElem?_cons_succ, List.getElem?_cons_zero]; try rfl)
            case wz2 => rfl
            case yz2 => (intro w hSw; (try dsimp only at hSw); go_simp; (try with_reducible rfl))
            (try simp only [Act.put, List.setIfInBounds_toArray, List.set_cons_zero, List.set_cons_succ])
            refine wpAnyH_take (i := 3) (oi := ?oz3) (v := ?vz3) ?hiz3 (by kernel_rfl) (by kernel_rfl) (by kernel_rfl) (fun _ _ _ h => h) (Or.inl ⟨?wz3, ?yz3⟩) (by assumption) ?rz3
            case hiz3 => (simp only [List.getElem?_toArray, List.getElem?_cons_succ, List.getElem?_cons_zero]; try rfl)
            case wz3 => rfl
            case yz3 => (intro w hSw; (try dsimp only at hSw); go_simp; (try with_reducible rfl))
            (try simp only [Act.put, List.setIfInBounds_toArray, List.set_cons_zero, List.set_cons_succ])
            refine wpAnyH_take (i := 7) (oi := ?oz7) (v := ?vz7) ?hiz7 (by kernel_rfl) (by kernel_rfl) (by kernel_rfl) (fun _ _ _ h => h) (Or.inl ⟨?wz7, ?yz7⟩) (by assumption) ?rz7
            case hiz7 => (simp only [List.getElem?_toArray, List.getElem?_cons_succ, List.getElem?_cons_zero]; try rfl)
            case wz7 => rfl
            case yz7 => (intro w hSw; (try dsimp only at hSw); go_simp; (try with_reducible rfl))
            (try simp only [Act.put, List.setIfInBounds_toArray, List.set_cons_zero, List.set_cons_succ])
            refine wpAnyH_take (i := 8) (oi := ?oz8) (v := ?vz8) ?hiz8 (by kernel_rfl) (by kernel_rfl) (by kernel_rfl) (fun _ _ _ h => h) (Or.inl ⟨?wz8, ?yz8⟩) (by assumption) ?rz8
            case hiz8 => (simp only [List.getElem?_toArray, List.getElem?_cons_succ, List.getElem?_cons_zero]; try rfl)
            case wz8 => rfl
            case yz8 => (intro w hSw; (try dsimp only at hSw); go_simp; (try with_reducible rfl))
            (try simp only [Act.put, List.setIfInBounds_toArray, List.set_cons_zero, List.set_cons_succ])
            refine wpAnyH_take (i := 9) (oi := ?oz9) (v := ?vz9) ?hiz9 (by kernel_rfl) (by kernel_rfl) (by kernel_rfl) (fun _ _ _ h => h) (Or.inl ⟨?wz9, ?yz9⟩) (by assumption) ?rz9
            case hiz9 => (simp only [List.getElem?_toArray, List.getElem?_cons_succ, List.getElem?_cons_zero]; try rfl)
            case wz9 => rfl
            case yz9 => (intro w hSw; (try dsimp only at hSw); go_simp; (try with_reducible rfl))
            (try simp only [Act.put, List.setIfInBounds_toArray, List.set_cons_zero, List.set_cons_succ])
            refine wpAnyH_ready (rs := [4]) (by kernel_rfl) (by simp) ?_
            refine AllReadyH.cons (o := ?oz4) ?hiz4 (fun K hK => ?_) AllReadyH.nil
            case hiz4 => (simp only [List.getElem?_toArray, List.getElem?_cons_succ, List.getElem?_cons_zero]; try rfl)
            go_simp
            refine hK.out _ _ (KA.out.cell' hcell (fun f => f)) (fun hHeld => ?_)
            clear hK K
            (try simp only [Act.put, List.setIfInBounds_toArray, List.set_cons_zero, List.set_cons_succ])
            refine wpAnyH_ready (rs := [5]) (by kernel_rfl) (by simp) ?_
            refine AllReadyH.cons (o := ?oz5) ?hiz5 (fun K hK => ?_) AllReadyH.nil
            case hiz5 => (simp only [List.getElem?_toArray, List.getElem?_cons_succ, List.getElem?_cons_zero]; try rfl)
            go_simp
            refine hK.out _ _ (KA.out.cell' hcell (fun f => f)) (fun hHeld => ?_)
            clear hK K
            (try simp only [Act.put, List.setIfInBounds_toArray, List.set_cons_zero, List.set_cons_succ])
            refine wpAnyH_ready (rs := [6]) (by kernel_rfl) (by simp) ?_
            refine AllReadyH.cons (o := ?oz6) ?hiz6 (fun K hK => ?_) AllReadyH.nil
            case hiz6 => (simp only [List.getElem?_toArray, List.getElem?_cons_succ, List.getElem?_cons_zero]; try rfl)
            go_simp
            go_at_call 23; refine (bods_q (m := 7 - k) (by rw [show 7 - k + 1 = 8 - k by omega]; exact HV2.out.keep KA.out) (by have := HIL.out; omega) k (KA.out.cell' hcell (fun f => f))).mono ?_; rintro e w8 ⟨u, rfl, hsu, hi2, hc8⟩
            have HSU := Lib.hid hsu; have HI2 := Lib.hid hi2; clear hsu hi2
            go_wp2_with fail
            refine hK.out _ _ (hc8) (fun hHeld => ?_)
            clear hK K
            (try simp only [Act.put, List.setIfInBounds_toArray, List.set_cons_zero, List.set_cons_succ])
            refine wpAnyH_ready (rs := [10]) (by kernel_rfl) (by simp) ?_
            refine AllReadyH.cons (o := ?oz10) ?hiz10 (fun K hK => ?_) AllReadyH.nil
            case hiz10 => (simp only [List.getElem?_toArray, List.getElem?_cons_succ, List.getElem?_cons_zero]; try rfl)
            go_simp
            go_at_call 22; refine (same_q _ _ _ _ HLT.out HSU.out (HSV.out w8 HI2.out hc8)).mono ?_; rintro e w9 ⟨rfl, hk9⟩
            have K9 := Lib.hid hk9; clear hk9
            go_wp2_with fail
            refine hK.out _ _ (K9.out.cell' hc8 (fun f => f)) (fun hHeld => ?_)
            clear hK K
            (try simp only [Act.put, List.setIfInBounds_toArray, List.set_cons_zero, List.set_cons_succ])
            refine wpAnyH_take (i := 11) (oi := ?oz11) (v := ?vz11) ?hiz11 (by kernel_rfl) (by kernel_rfl) (by kernel_rfl) (fun _ _ _ h => h) (Or.inl ⟨?wz11, ?yz11⟩) (by assumption) ?rz11
            case hiz11 => (simp only [List.getElem?_toArray, List.getElem?_cons_succ, List.getElem?_cons_zero]; try rfl)
            case wz11 => rfl
            case yz11 => (intro w hSw; (try dsimp only at hSw); go_simp; (try with_reducible rfl))
            (try simp only [Act.put, List.setIfInBounds_toArray, List.set_cons_zero, List.set_cons_succ])
            refine wpAnyH_done (by kernel_rfl) ?_ _
            refine NoPanic.normal ?_
            go_wp2_with fail
            exact ⟨⟨k + 1, by omega, by go_num, by rw [show 8 - (k + 1) = 7 - k by omega]; exact HI2.out.keep K9.out⟩, by simp [intOf]; omega⟩
          · obtain rfl : k = 8 := by omega
            have hlt2 : ¬ (8 : Int) < 8 := by omega
            go_wp2_with fail
            go_ret
            exact ⟨rfl, HV2.out.kp⟩

set_option linter.unusedVariables false
set_option maxRecDepth 100000 in
theorem lifted (os : Os) (started : os.Started) (H : Type) (enc : TypeId × Value → H) :
    ReturnsInHanded {} Tryz.checked os 11 .any (Rows.topQueuesSpec.pre6 enc Tryz.prog Tryz.f11 Rows.topQueuesRow.domain false) (Rows.topQueuesSpec.post enc Tryz.prog Tryz.f11 false true false false) := by
  refine returnsInHanded_of_change (C := Tryz.checked) own started (by kernel_rfl) Tryz.func11
    (ChangeSpec.witness6 (enc := enc) (C := Tryz.checked) false ⟨#[], #[.slice none 0 0], []⟩ 8 (by kernel_rfl) (by kernel_rfl) (by kernel_rfl) (by kernel_rfl)) ?_
  intro W base args ds gs before hval0 hW hcnd _
  have hval : ∀ (j : Nat) t v, Tryz.f11.params[j]? = some t → args[j]? = some v → Value.okWide Tryz.prog W .any base t v := hval0
  have hW' := hW
  obtain ⟨p, q, hA0, hV, rfl, hfz, hnd⟩ := hW
  have hA : DataW.TrodAll enc Tryz.prog W 0 (fun _ => true) true Tryz.f11.params.toList args.toList ds p := hA0
  rw [Tryz.params11] at hA hval
  obtain ⟨v0, vs0, d0, ds0, p0, q0, hargs, rfl, rfl, h0, r0⟩ := trodAll_cons hA
  obtain ⟨rfl, rfl, rfl⟩ := trodAll_nil r0
  obtain rfl : args = #[v0] := by cases args; simp_all
  obtain ⟨rfl, rfl⟩ := trodVars_none hV
  obtain ⟨a0, len0, cap0, rfl⟩ := okWide_slice Tryz.underlying49 (hval 0 49 v0 rfl rfl)
  have k0 := h0
  have lt0 : ∀ x ∈ p0, x.block < W.heap.size := by obtain ⟨m, hm⟩ := k0; exact DataW.trod_lt m _ _ _ hm
  obtain ⟨z0, w0⟩ : ∃ zs, IsRow .i64 W a0 len0 cap0 zs := by
    obtain ⟨fuel, hf⟩ := h0
    rcases open_ints Tryz.underlying49 Tryz.underlying3 (by kernel_rfl) hf with ⟨hcs, _⟩ | ⟨x, l, c, zs, hcs, _, hl, hm, hz, _, hcell, hwz⟩
    · simp [Value.cells] at hcs
      obtain ⟨rfl, rfl, rfl⟩ := hcs
      exact ⟨[], .inl ⟨rfl, rfl, rfl, rfl⟩⟩
    · simp [Value.cells] at hcs
      obtain ⟨rfl, rfl, rfl⟩ := hcs
      exact ⟨zs, .inr ⟨_, rfl, hl, hm, by simpa using hz, hcell, hwz⟩⟩
  clear hA0 hval0
  refine (walk W a0 len0 cap0 z0 w0).mono fun e W' ⟨he, hk⟩ => ?_
  subst he
  have bel := Keep.below hk
  exact ⟨_, rfl, _, _, _, [], _, [], hW', trodAll_mk1 (shut_bool Tryz.underlying4 _), (trodAll_cons_mk (Below.trod laidOut (by kernel_rfl) (of_decide_eq_true (by kernel_rfl)) k0 bel lt0) trodAll_mk0), rfl, bel.frame _, fun h => by cases h⟩

theorem over : Rows.topQueuesRow.holds Tryz.pinned (OpenSpec.ofChange Rows.topQueuesSpec) :=
  OpenClaim.holds_of_wide 11 Tryz.f11 rfl rfl rfl rfl rfl rfl rfl ⟨rfl, rfl, rfl, rfl, rfl⟩ rfl rfl rfl rfl rfl facName Tryz.func11 (joined_of facLaid facMaps facPlace facUnf facRec facNamed facKeys facHeard facEnter facLift facMake (by kernel_rfl))
    (of_decide_eq_true (by kernel_rfl)) (by unfold Func.isWrapper; rw [if_neg (of_decide_eq_false (by kernel_rfl))]; exact ⟨rfl, rfl⟩)
    (fun os started H enc _ => lifted os started H enc)

/-- The statement. -/
theorem proved : Rows.TopQueuesSaid := over
#print axioms proved
end Go.Proofs.YtkjdclpneaepkaaGreat.topQueues
