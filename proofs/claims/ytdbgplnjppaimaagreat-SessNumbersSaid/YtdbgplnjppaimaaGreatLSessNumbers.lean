/- SessNumbers: the law returns true and changes nothing that was there. No conditions. -/
import Derived.Test.YtdbgplnjppaimaaGreatLaw13r
import Derived.Deep.CutRange
import Derived.Deep.CutBlock
import Derived.Test.YtdbgplnjppaimaaGreatRows
import Derived.WalkKit
import Derived.ProofKit
import Derived.OpenShut
import Derived.ShutString
import Derived.ChangeOld
import Derived.Below
namespace Go.Proofs.YtdbgplnjppaimaaGreat.sessNumbers
open Go Go.ChangeShapes Go.WideShapes Go.ChangeAt Go.RowKit
open Go.ChangeMaps (open_string shut_string)

theorem own : ownKnob Tryz.prog.godebug = none := by kernel_rfl
theorem laidOut : laidOutB Tryz.prog = true := by kernel_rfl

open Go.Proofs Go.RowKit Go.Maps Go.Sort Go.Shelf
def SN (w wr : World) (p mb tp tm i : Nat) (v : Value) : Prop :=
  ∃ (nb : Nat) (last : Int) (K : List Int) (td ag : Int → Int), nb ≤ i ∧ last ≤ i ∧ K.length ≤ 20 ∧ SSt w wr p mb tp tm nb 7 last K td ag ∧ RowS w wr v K p mb tp tm
theorem home7 (last : Int) (h : 0 ≤ last ∧ last < 100000) : homeOf (7 * 4294967296 + (last + 1)) = 7 := by
  unfold homeOf
  have h1 : (7 * 4294967296 + (last + 1)) / 4294967296 = 7 := by omega
  have h2 : (7 * 4294967296 + (last + 1)) % 4294967296 = last + 1 := by omega
  rw [h1, h2, if_pos ⟨by omega, by omega, by omega⟩]
theorem pos_k (x : Int) (n : Nat) (hn : 1 < n) : 0 ≤ (x.tmod n + n).tmod ((n : Int) - 1) ∧ (x.tmod n + n).tmod ((n : Int) - 1) < (n : Int) - 1 ∧ -(n : Int) < x.tmod n ∧ x.tmod n < n := by
  have h1 := Int.tmod_lt_of_pos x (b := (n : Int)) (by omega)
  have h2 : -(n : Int) < x.tmod n := by
    rcases Int.le_total 0 x with h | h
    · have := Int.tmod_nonneg (n : Int) h; omega
    · have h3 := Int.tmod_lt_of_pos (-x) (b := (n : Int)) (by omega)
      rw [Int.neg_tmod] at h3; omega
  have h4 : 0 ≤ x.tmod n + n := by omega
  exact ⟨Int.tmod_nonneg _ h4, Int.tmod_lt_of_pos _ (by omega), h2, h1⟩
theorem rowS_own {w wr : World} {ao : Option Addr} {n cp : Nat} {K : List Int} {p mb tp tm : Nat} (h : RowS w wr (.slice ao n cp) K p mb tp tm) (hn : K.length = n) : wr.ownsRow 0 2 1 (.slice ao n cp) n (K.flatMap iC) := by
  obtain ⟨⟨ao', cp', e, h1, _⟩, _⟩ := h
  rw [hn] at e h1
  cases e
  exact h1
theorem filt_erase {K : List Int} (h : K.Pairwise (· < ·)) {k : Nat} (hk : k < K.length) : K.filter (fun z => decide (z ≠ K[k])) = K.eraseIdx k :=
  rise_uniq (h.filter _) (h.sublist (List.eraseIdx_sublist _ _)) (fun y => by rw [mem_cut h hk, List.mem_filter]; simp)
set_option maxHeartbeats 16000000 in
set_option maxRecDepth 8000 in
theorem walk (w : World) (ao0 : Option Addr) (len cap : Nat) (l : List Int) (h : IsRow .i64 w ao0 len cap l) :
    Calls Tryz.prog 6 #[.slice ao0 len cap] w fun e w' => e = .returned (.bool true) ∧ Keep NoF w w' := by
  have HL := Lib.hid h
  clear h
  go_enter Tryz.func6, Tryz.ntmps6
  go_wp2_with fail
  refine (begun13_any w).mono ?_
  rintro e w1 ⟨rfl, hk⟩
  have K1 := Lib.hid hk
  clear hk
  go_wp2_with fail
  refine (newSes_any 7 (by omega) w1).mono ?_
  rintro e w2 hN
  obtain ⟨p, mb, tp, tm, rfl, hS⟩ := sst_new K1.out hN
  have S2 := Lib.hid hS
  clear hN hS
  go_wp2_with fail
  go_loopw [5, 6] (fun v iv wr => ∃ (i : Nat), i ≤ min len 60 ∧ iv = .int .i64 i ∧ SN w wr p mb tp tm i v) (fun _ iv _ => 60 - (intOf iv).toNat)
  case atStart => exact ⟨0, Nat.zero_le _, rfl, 0, 0, [], _, _, Nat.le_refl _, by omega, by simp, S2.out, RowP.nil, nofun⟩
  case round =>
    obtain ⟨i, hi, rfl, nb, last, K, td, ag, hnb, hla, hK20, hS, hR⟩ := hrel
    have HS := Lib.hid hS; have HR := Lib.hid hR
    have KP := Lib.hid hS.kp
    obtain ⟨n, hn⟩ : ∃ n, K.length = n := ⟨_, rfl⟩
    obtain ⟨ao, cp, rfl, hcp, hcm, hro⟩ := hR.1.slice hn
    have HN := Lib.hid hn; have HRO := Lib.hid hro
    have hbl := hS.1.bl
    have hl0 : 0 ≤ last := hbl.2.2.1
    rw [hn] at hK20
    clear hS hR hro hn hbl
    by_cases hlt : i < len
    · have hlt2 : (i : Int) < len := by omega
      have hlt3 : decide (i < len) = true := by simp [hlt]
      have hlt4 : decide (len ≤ i) = false := by simp; omega
      by_cases h60 : i < 60
      · have h60b : (i : Int) < 60 := by omega
        have h60c : decide ((i : Int) < 60) = true := by simp [h60b]
        obtain ⟨gl, ol, rfl, hcl, hwl⟩ := HL.out.cellAt i hlt
        have hxb := bounds_i64 hwl
        generalize l.getD i 0 = x at hcl hwl hxb
        have HCL := Lib.hid hcl
        clear hcl hwl
        by_cases hroom : n < 20
        · go_wp2_with fail
          refine (sst_open HS.out (by rw [HN.out]; exact hroom) (by omega) (by omega)).mono ?_
          rintro e w3 ⟨rfl, h3, k3⟩
          have S3 := Lib.hid h3
          have R3 := Lib.hid (HR.out.keep k3)
          have hkn := HS.out.kf k3
          have K3 := Lib.hid hkn
          have HRO3 : Hid (w3.ownsRow 0 2 1 (.slice ao n cp) n (K.flatMap iC)) := Lib.hid (rowS_own R3.out HN.out)
          have hlast : ∀ k (hk : k < K.length), decide (7 * 4294967296 + (last + 1) ≤ K[k]'hk) = false := fun k hk => by have := HS.out.1.rg K[k] (List.getElem_mem hk); simp; omega
          have HLA := Lib.hid hlast; have HHM := Lib.hid (home7 last (by omega))
          have hidb : 0 ≤ 7 * 4294967296 + (last + 1) ∧ 7 * 4294967296 + (last + 1) ≤ 40000000000 := by omega
          clear h3 k3 hkn hlast
          obtain ⟨id, hid⟩ : ∃ id, 7 * 4294967296 + (last + 1) = id := ⟨_, rfl⟩
          rw [hid] at S3 HLA HHM hidb
          (try simp only [hid])
          have HID := Lib.hid hid
          clear hid
          by_cases hn0 : n = 0
          · have HN0 := Lib.hid hn0
            have hn1 : ¬ (0 : Int) < n := by omega
            have hn2 : decide ((0 : Int) < n) = false := by simp; omega
            clear hn0
            go_wp2_with fail
            refine (rhome_any id w3 (by omega)).mono ?_
            rintro e w' ⟨rfl, hw⟩
            obtain rfl : w3 = w' := hw.symm
            rw [HHM.out]
            go_wp2_with (at_builtin; refine wpList_app 45 45 2 (.int .i64 0) 1 8 Tryz.underlying45 infoL rfl (by decide) (by decide) rfl rfl rfl rfl (HRO3.out.alloc _) (src_oneK (x := id) iC_one iC_len Tryz.underlying45 (heap_new w3 _) rfl 1) (by omega) ?_)
            intro a5 c5 w5 hown hgr hfr
            have hkw : Keep (fun k => (Value.slice ao n cp).ownBlock = some k) w3 w5 := (((Keep.refl NoF w3).alloc _).mono (fun _ _ f => f.elim)).grown hgr (fun k _ e => e)
            have hlo3 : ∀ g, (Value.slice ao n cp).ownBlock = some g → w.heap.size ≤ g := R3.out.1.lo
            have HS5 : Hid (SSt w w5 p mb tp tm (nb + 1) 7 (last + 1) (K ++ [id]) (tdUp td id 0) (agUp ag id)) := Lib.hid (S3.out.keep hkw hlo3 ⟨fun e => (R3.out.2 _ e).1 rfl, fun e => (R3.out.2 _ e).2.1 rfl, fun e => (R3.out.2 _ e).2.2.1 rfl, fun e => (R3.out.2 _ e).2.2.2 rfl⟩)
            have HR5 : Hid (RowS w w5 (.slice a5 (n + 1) c5) (K ++ [id]) p mb tp tm) := by
              have hl5 : (K ++ [id]).length = n + 1 := by rw [List.length_append, HN.out]; rfl
              have hlt3 := S3.out.1.lt
              have hks3 := S3.out.kp.size
              have hs3 : (w3.alloc (.cells #[.int .i64 id] 2 (0, 0))).heap.size = w3.heap.size + 1 := by simp
              refine Lib.hid ⟨⟨a5, c5, by rw [hl5], by rw [hl5, List.flatMap_append]; exact hown, fun g hg => ?_⟩, fun g hg => ?_⟩
              · rcases hfr with f | f
                · rw [f] at hg; exact hlo3 g hg
                · rw [f] at hg; injection hg with hg; omega
              · rcases hfr with f | f
                · rw [f] at hg; exact R3.out.2 g hg
                · rw [f] at hg; injection hg with hg; omega
            obtain ⟨n5, hn5⟩ : ∃ n5, n + 1 = n5 := ⟨_, rfl⟩
            have HN5 : Hid ((K ++ [id]).length = n5) := Lib.hid (by rw [List.length_append, HN.out, ← hn5]; rfl)
            rw [hn5] at HR5 ⊢
            have hnb5 : nb + 1 ≤ i + 1 := by omega
            have hla5 : last + 1 ≤ (i : Int) + 1 := by omega
            have hk5 : n5 ≤ 20 := by omega
            clear hown hgr hfr hkw hlo3 hn5 HRO3
            go_upto_region 16 with fail
            have cx : w5.cell? ⟨gl, ol + i, none⟩ = some (.int .i64 x) := HS5.out.kp.cell' HCL.out (fun f => f)
            have KP5 := Lib.hid HS5.out.kp
            have HNX : Hid (SN w w5 p mb tp tm (i + 1) (.slice a5 n5 c5)) := Lib.hid ⟨(nb + 1), (last + 1), (K ++ [id]), (tdUp td id 0), (agUp ag id), hnb5, by omega, by rw [HN5.out]; exact hk5, HS5.out, HR5.out⟩
            by_cases hbit : bits BinOp.and IntKind.i64 x 1 = 1
            · have hbit2 : (bits BinOp.and IntKind.i64 x 1 == 1) = true := by simp [hbit]
              by_cases h1n : 1 < n5
              · have h1n2 : (1 : Int) < n5 := by omega
                have h1n3 : decide ((1 : Int) < n5) = true := by simp; omega
                have hpk := pos_k x n5 h1n
                obtain ⟨k, hk, hkb⟩ : ∃ k : Nat, (wrap64 (x.tmod (n5 : Int) + n5)).tmod ((n5 : Int) - 1) = k ∧ k + 1 < n5 := by
                  have e : wrap64 (x.tmod (n5 : Int) + n5) = x.tmod n5 + n5 := by unfold wrap64; omega
                  rw [e]
                  exact ⟨((x.tmod n5 + n5).tmod ((n5 : Int) - 1)).toNat, (Int.toNat_of_nonneg hpk.1).symm, by have := hpk.1; have := hpk.2.1; omega⟩
                clear hpk
                go_upto_region 18 with fail
                (try rw [hk])
                clear hk
                have hkn2 : k < n5 := by omega
                have HROk : Hid (w5.ownsRow 0 2 1 (.slice a5 n5 c5) n5 ((K ++ [id]).flatMap iC)) := Lib.hid (rowS_own HR5.out HN5.out)
                obtain ⟨gk, hgk, ck⟩ := row_at HROk.out HN5.out k (by rw [HN5.out]; omega)
                subst hgk
                have hzin : (K ++ [id])[k]'(by rw [HN5.out]; omega) ∈ (K ++ [id]) := List.getElem_mem _
                have hzf : (K ++ [id]).filter (fun z => decide (z ≠ (K ++ [id])[k]'(by rw [HN5.out]; omega))) = (K ++ [id]).eraseIdx k := filt_erase HS5.out.1.st (by rw [HN5.out]; omega)
                generalize (K ++ [id])[k]'(by rw [HN5.out]; omega) = z at ck hzin hzf
                have hki : KI z := HS5.out.1.ki z hzin
                have HZI := Lib.hid hzin; have HZF := Lib.hid hzf; have HKI := Lib.hid hki
                have hkn3 : (k : Int) < n5 := by omega
                have hkn4 : decide (n5 ≤ k) = false := by simp; omega
                clear hzin hzf hki
                go_wp2_with fail
                refine (sst_close HS5.out z HKI.out HZI.out).mono ?_
                rintro e w6 ⟨rfl, h6, k6⟩
                rw [HZF.out] at h6
                have HS6 := Lib.hid h6; have HR6 := Lib.hid (HR5.out.keep k6)
                clear h6 k6 ck cx
                have HRK : Hid (w6.ownsRow 0 2 1 (.slice (some ⟨gk, 0, none⟩) n5 c5) n5 ((K ++ [id]).flatMap iC)) := Lib.hid (rowS_own HR6.out HN5.out)
                have hcpb := row_cap HRK.out
                unfold maxLen at hcpb
                go_upto_region 21 with fail
                have K0 := Lib.hid ((Keep.refl NoF w6).drew)
                have SRC1 : Hid (∀ W, Keep NoF w6 W → Src Tryz.prog 1 45 (.slice (some ⟨gk, 0, none⟩) k c5) k (((K ++ [id]).take k).flatMap iC) W) := Lib.hid fun W hW => src_upto iC_len iC_one Tryz.underlying45 (row_keep HRK.out hW (fun _ _ f => f)) HN5.out k (by omega) c5
                have SRC2 : Hid (∀ W, Keep NoF w6 W → Src Tryz.prog 1 45 (.slice (fromA (some ⟨gk, 0, none⟩) (k + 1) c5 1) (n5 - (k + 1)) (c5 - (k + 1))) (n5 - (k + 1)) (((K ++ [id]).drop (k + 1)).flatMap iC) W) := Lib.hid fun W hW => src_from iC_len iC_one Tryz.underlying45 (row_keep HRK.out hW (fun _ _ f => f)) HN5.out (k + 1) (by omega) (c5 - (k + 1))
                have HHI := Lib.hid (fun W => run_upto (P := Tryz.prog) Tryz.underlying45 infoL (some ⟨gk, 0, none⟩) n5 c5 k (by omega) W)
                have hlo := fun W => run_from (P := Tryz.prog) Tryz.underlying45 infoL (some ⟨gk, 0, none⟩) n5 c5 (k + 1) (by omega) W
                rw [show ((k + 1 : Nat) : Int) = (k : Int) + 1 by omega] at hlo
                have HLO := Lib.hid hlo
                clear hlo
                have hsum : IntKind.i64.wrap ((k : Int) + 1) = (k : Int) + 1 := IntWalk.i64_in _ (by omega)
                refine wp_region_noPanic ?_
                refine wp_region_held_drew (S := (fun _ : World => True)) (by kernel_rfl) (trivial) (fun hHeld => ?_)
                refine wpAnyH_take (i := 0) (oi := ?oRC0) (v := ?vRC0) ?hiRC0 (by kernel_rfl) (by kernel_rfl) (by kernel_rfl) (fun _ _ _ h => h) (Or.inl ⟨?wRC0, ?yRC0⟩) (by assumption) ?rRC0
                case hiRC0 => (simp only [List.getElem?_toArray, List.getElem?_cons_zero]; try rfl)
                case wRC0 => rfl
                case yRC0 => (intro w hSw; (try dsimp only at hSw); go_simp; (try with_reducible rfl))
                (try simp only [Act.put, List.setIfInBounds_toArray, List.set_cons_zero, List.set_cons_succ])
                refine wpAnyH_take (i := 1) (oi := ?oRC1) (v := ?vRC1) ?hiRC1 (by kernel_rfl) (by kernel_rfl) (by kernel_rfl) (fun _ _ _ h => h) (Or.inl ⟨?wRC1, ?yRC1⟩) (by assumption) ?rRC1
                case hiRC1 => (simp only [List.getElem?_toArray, List.getElem?_cons_succ, List.getElem?_cons_zero]; try rfl)
                case wRC1 => rfl
                case yRC1 => (intro w hSw; (try dsimp only at hSw); go_simp; (try with_reducible rfl))
                (try simp only [Act.put, List.setIfInBounds_toArray, List.set_cons_zero, List.set_cons_succ])
                refine wpAnyH_take (i := 2) (oi := ?oRC2) (v := .slice (some ⟨gk, 0, none⟩) k c5) ?hiRC2 (by kernel_rfl) (by kernel_rfl) (by kernel_rfl) (fun _ _ _ h => h) (Or.inl ⟨?wRC2, ?yRC2⟩) (by assumption) ?rRC2
                case hiRC2 => (simp only [List.getElem?_toArray, List.getElem?_cons_succ, List.getElem?_cons_zero]; try rfl)
                case wRC2 => rfl
                case yRC2 => (intro w hSw; exact slice_yields rfl (HHI.out w))
                (try simp only [Act.put, List.setIfInBounds_toArray, List.set_cons_zero, List.set_cons_succ])
                refine wpAnyH_take (i := 4) (oi := ?oRC4) (v := ?vRC4) ?hiRC4 (by kernel_rfl) (by kernel_rfl) (by kernel_rfl) (fun _ _ _ h => h) (Or.inl ⟨?wRC4, ?yRC4⟩) (by assumption) ?rRC4
                case hiRC4 => (simp only [List.getElem?_toArray, List.getElem?_cons_succ, List.getElem?_cons_zero]; try rfl)
                case wRC4 => rfl
                case yRC4 => (intro w hSw; (try dsimp only at hSw); go_simp; (try with_reducible rfl))
                (try simp only [Act.put, List.setIfInBounds_toArray, List.set_cons_zero, List.set_cons_succ])
                refine wpAnyH_take (i := 5) (oi := ?oRC5) (v := ?vRC5) ?hiRC5 (by kernel_rfl) (by kernel_rfl) (by kernel_rfl) (fun _ _ _ h => h) (Or.inl ⟨?wRC5, ?yRC5⟩) (by assumption) ?rRC5
                case hiRC5 => (simp only [List.getElem?_toArray, List.getElem?_cons_succ, List.getElem?_cons_zero]; try rfl)
                case wRC5 => rfl
                case yRC5 => (intro w hSw; (try dsimp only at hSw); go_simp; (try with_reducible rfl))
                (try simp only [Act.put, List.setIfInBounds_toArray, List.set_cons_zero, List.set_cons_succ])
                refine wpAnyH_take (i := 6) (oi := ?oRC6) (v := ?vRC6) ?hiRC6 (by kernel_rfl) (by kernel_rfl) (by kernel_rfl) (fun _ _ _ h => h) (Or.inl ⟨?wRC6, ?yRC6⟩) (by assumption) ?rRC6
                case hiRC6 => (simp only [List.getElem?_toArray, List.getElem?_cons_succ, List.getElem?_cons_zero]; try rfl)
                case wRC6 => rfl
                case yRC6 => (intro w hSw; (try dsimp only at hSw); go_simp; (try with_reducible rfl))
                (try simp only [Act.put, List.setIfInBounds_toArray, List.set_cons_zero, List.set_cons_succ])
                refine wpAnyH_take (i := 7) (oi := ?oRC7) (v := .slice (fromA (some ⟨gk, 0, none⟩) (k + 1) c5 1) (n5 - (k + 1)) (c5 - (k + 1))) ?hiRC7 (by kernel_rfl) (by kernel_rfl) (by kernel_rfl) (fun _ _ _ h => h) (Or.inl ⟨?wRC7, ?yRC7⟩) (by assumption) ?rRC7
                case hiRC7 => (simp only [List.getElem?_toArray, List.getElem?_cons_succ, List.getElem?_cons_zero]; try rfl)
                case wRC7 => rfl
                case yRC7 => (intro w hSw; exact slice_yields rfl (HLO.out w))
                (try simp only [Act.put, List.setIfInBounds_toArray, List.set_cons_zero, List.set_cons_succ])
                refine wpAnyH_ready (rs := [3]) (by kernel_rfl) (by simp) ?_
                refine (AllReadyH.cons (o := ?oRC3) ?hiRC3 (fun K hK => ?_) AllReadyH.nil)
                case hiRC3 => (simp only [List.getElem?_toArray, List.getElem?_cons_succ, List.getElem?_cons_zero]; try rfl)
                refine step_app 45 45 2 (.int .i64 0) 1 8 Tryz.underlying45 infoL rfl (by decide) (by decide) rfl rfl rfl rfl (v := .slice none 0 0) (sv := (.slice (some ⟨gk, 0, none⟩) k c5)) (World.ownsRow_nil _ _ _ _) (SRC1.out _ (K0.out)) (by omega) ?_
                intro a1 c1 W1' hown1 hgr1 hfr1
                simp only [Nat.zero_add, List.nil_append] at hown1 hgr1 hfr1 ⊢
                have kA : Keep NoF w6 W1' := (K0.out).grown hgr1 (fun k _ e => by cases e)
                have fr1 : ∀ b, (Value.slice a1 k c1).ownBlock = some b → w6.heap.size ≤ b := fun b hk => by
                  rcases hfr1 with f | f
                  · rw [f] at hk; cases hk
                  · rw [f] at hk; injection hk with hk; exact Nat.le_trans (K0.out).size (Nat.le_of_eq hk)
                refine hK.out _ _ (trivial) (fun hHeld => ?_)
                clear hK K
                (try simp only [Act.put, List.setIfInBounds_toArray, List.set_cons_zero, List.set_cons_succ])
                refine wpAnyH_ready (rs := [8]) (by kernel_rfl) (by simp) ?_
                refine (AllReadyH.cons (o := ?oRC8) ?hiRC8 (fun K hK => ?_) AllReadyH.nil)
                case hiRC8 => (simp only [List.getElem?_toArray, List.getElem?_cons_succ, List.getElem?_cons_zero]; try rfl)
                refine step_app 45 45 2 (.int .i64 0) 1 8 Tryz.underlying45 infoL rfl (by decide) (by decide) rfl rfl rfl rfl (v := .slice a1 k c1) (sv := (.slice (fromA (some ⟨gk, 0, none⟩) (k + 1) c5 1) (n5 - (k + 1)) (c5 - (k + 1)))) (hown1) (SRC2.out _ kA) (by omega) ?_
                intro a3 c3 W3 hown3 hgr3 hfr3
                have kB : Keep NoF w6 W3 := kA.grown hgr3 (fun b hk e => by have := fr1 b e; omega)
                have fr3 : ∀ b, (Value.slice a3 (k + (n5 - (k + 1))) c3).ownBlock = some b → w6.heap.size ≤ b := fun b hk => by
                  rcases hfr3 with f | f
                  · rw [f] at hk; exact fr1 b hk
                  · rw [f] at hk; injection hk with hk; exact Nat.le_trans (kA).size (Nat.le_of_eq hk)
                refine hK.out _ _ (trivial) (fun hHeld => ?_)
                clear hK K
                (try simp only [Act.put, List.setIfInBounds_toArray, List.set_cons_zero, List.set_cons_succ])
                refine wpAnyH_take (i := 9) (oi := ?oRC9) (v := ?vRC9) ?hiRC9 (by kernel_rfl) (by kernel_rfl) (by kernel_rfl) (fun _ _ _ h => h) (Or.inl ⟨?wRC9, ?yRC9⟩) (by assumption) ?rRC9
                case hiRC9 => (simp only [List.getElem?_toArray, List.getElem?_cons_succ, List.getElem?_cons_zero]; try rfl)
                case wRC9 => rfl
                case yRC9 => (intro w hSw; (try dsimp only at hSw); go_simp; (try with_reducible rfl))
                (try simp only [Act.put, List.setIfInBounds_toArray, List.set_cons_zero, List.set_cons_succ])
                refine wpAnyH_done (by kernel_rfl) ?_ _
                refine NoPanic.normal ?_
                have e1 : k + (n5 - (k + 1)) = n5 - 1 := by omega
                have e2 : ((K ++ [id]).eraseIdx k).length = n5 - 1 := by rw [List.length_eraseIdx_of_lt (by rw [HN5.out]; exact hkn2), HN5.out]
                rw [e1] at hown3 fr3 ⊢
                have hr7 : RowP 2 w6.heap.size W3 (.slice a3 (n5 - 1) c3) ((K ++ [id]).eraseIdx k) := ⟨a3, c3, by rw [e2], by rw [e2, List.eraseIdx_eq_take_drop_succ, List.flatMap_append]; exact hown3, fr3⟩
                have HNY : Hid (SN w W3 p mb tp tm (i + 1) (.slice a3 (n5 - 1) c3)) := Lib.hid ⟨(nb + 1), (last + 1), (K ++ [id]).eraseIdx k, (tdUp td id 0), (agUp ag id), hnb5, by omega, by rw [e2]; omega, HS6.out.keepN kB, RowS.new hr7 HS6.out⟩
                clear hown1 hgr1 hfr1 fr1 hown3 hgr3 hfr3 fr3 kA kB hr7 e1 e2
                go_wp2_with fail
                go_roundw
                case rel => exact ⟨i + 1, by omega, by go_num, HNY.out⟩
                case measure => simp [intOf]; omega
              · have h1n2 : ¬ (1 : Int) < n5 := by omega
                have h1n3 : decide ((1 : Int) < n5) = false := by simp; omega
                go_wp2_with fail
                go_roundw
                case rel => exact ⟨i + 1, by omega, by go_num, HNX.out⟩
                case measure => simp [intOf]; omega
            · have hbit2 : (bits BinOp.and IntKind.i64 x 1 == 1) = false := by simp [hbit]
              go_wp2_with fail
              go_roundw
              case rel => exact ⟨i + 1, by omega, by go_num, HNX.out⟩
              case measure => simp [intOf]; omega
          · have hn1 : (0 : Int) < n := by omega
            have hn2 : decide ((0 : Int) < n) = true := by simp; omega
            have hw1 : IntKind.i64.wrap ((n : Int) - 1) = ((n - 1 : Nat) : Int) := by rw [IntWalk.i64_in _ (by omega)]; omega
            have hx1 : ((n - 1 : Nat) : Int) < n := by omega
            have hx2 : decide (n ≤ n - 1) = false := by simp; omega
            obtain ⟨gr, rfl, cr⟩ := row_at HRO3.out HN.out (n - 1) (by rw [HN.out]; omega)
            have hle := HLA.out (n - 1) (by rw [HN.out]; omega)
            generalize K[n - 1]'(by rw [HN.out]; omega) = z at cr hle
            go_wp2_with fail
            refine (rhome_any id w3 (by omega)).mono ?_
            rintro e w' ⟨rfl, hw⟩
            obtain rfl : w3 = w' := hw.symm
            rw [HHM.out]
            go_wp2_with (at_builtin; refine wpList_app 45 45 2 (.int .i64 0) 1 8 Tryz.underlying45 infoL rfl (by decide) (by decide) rfl rfl rfl rfl (HRO3.out.alloc _) (src_oneK (x := id) iC_one iC_len Tryz.underlying45 (heap_new w3 _) rfl 1) (by omega) ?_)
            intro a5 c5 w5 hown hgr hfr
            have hkw : Keep (fun k => (Value.slice (some ⟨gr, 0, none⟩) n cp).ownBlock = some k) w3 w5 := (((Keep.refl NoF w3).alloc _).mono (fun _ _ f => f.elim)).grown hgr (fun k _ e => e)
            have hlo3 : ∀ g, (Value.slice (some ⟨gr, 0, none⟩) n cp).ownBlock = some g → w.heap.size ≤ g := R3.out.1.lo
            have HS5 : Hid (SSt w w5 p mb tp tm (nb + 1) 7 (last + 1) (K ++ [id]) (tdUp td id 0) (agUp ag id)) := Lib.hid (S3.out.keep hkw hlo3 ⟨fun e => (R3.out.2 _ e).1 rfl, fun e => (R3.out.2 _ e).2.1 rfl, fun e => (R3.out.2 _ e).2.2.1 rfl, fun e => (R3.out.2 _ e).2.2.2 rfl⟩)
            have HR5 : Hid (RowS w w5 (.slice a5 (n + 1) c5) (K ++ [id]) p mb tp tm) := by
              have hl5 : (K ++ [id]).length = n + 1 := by rw [List.length_append, HN.out]; rfl
              have hlt3 := S3.out.1.lt
              have hks3 := S3.out.kp.size
              have hs3 : (w3.alloc (.cells #[.int .i64 id] 2 (0, 0))).heap.size = w3.heap.size + 1 := by simp
              refine Lib.hid ⟨⟨a5, c5, by rw [hl5], by rw [hl5, List.flatMap_append]; exact hown, fun g hg => ?_⟩, fun g hg => ?_⟩
              · rcases hfr with f | f
                · rw [f] at hg; exact hlo3 g hg
                · rw [f] at hg; injection hg with hg; omega
              · rcases hfr with f | f
                · rw [f] at hg; exact R3.out.2 g hg
                · rw [f] at hg; injection hg with hg; omega
            obtain ⟨n5, hn5⟩ : ∃ n5, n + 1 = n5 := ⟨_, rfl⟩
            have HN5 : Hid ((K ++ [id]).length = n5) := Lib.hid (by rw [List.length_append, HN.out, ← hn5]; rfl)
            rw [hn5] at HR5 ⊢
            have hnb5 : nb + 1 ≤ i + 1 := by omega
            have hla5 : last + 1 ≤ (i : Int) + 1 := by omega
            have hk5 : n5 ≤ 20 := by omega
            clear hown hgr hfr hkw hlo3 hn5 HRO3
            go_upto_region 16 with fail
            have cx : w5.cell? ⟨gl, ol + i, none⟩ = some (.int .i64 x) := HS5.out.kp.cell' HCL.out (fun f => f)
            have KP5 := Lib.hid HS5.out.kp
            have HNX : Hid (SN w w5 p mb tp tm (i + 1) (.slice a5 n5 c5)) := Lib.hid ⟨(nb + 1), (last + 1), (K ++ [id]), (tdUp td id 0), (agUp ag id), hnb5, by omega, by rw [HN5.out]; exact hk5, HS5.out, HR5.out⟩
            by_cases hbit : bits BinOp.and IntKind.i64 x 1 = 1
            · have hbit2 : (bits BinOp.and IntKind.i64 x 1 == 1) = true := by simp [hbit]
              by_cases h1n : 1 < n5
              · have h1n2 : (1 : Int) < n5 := by omega
                have h1n3 : decide ((1 : Int) < n5) = true := by simp; omega
                have hpk := pos_k x n5 h1n
                obtain ⟨k, hk, hkb⟩ : ∃ k : Nat, (wrap64 (x.tmod (n5 : Int) + n5)).tmod ((n5 : Int) - 1) = k ∧ k + 1 < n5 := by
                  have e : wrap64 (x.tmod (n5 : Int) + n5) = x.tmod n5 + n5 := by unfold wrap64; omega
                  rw [e]
                  exact ⟨((x.tmod n5 + n5).tmod ((n5 : Int) - 1)).toNat, (Int.toNat_of_nonneg hpk.1).symm, by have := hpk.1; have := hpk.2.1; omega⟩
                clear hpk
                go_upto_region 18 with fail
                (try rw [hk])
                clear hk
                have hkn2 : k < n5 := by omega
                have HROk : Hid (w5.ownsRow 0 2 1 (.slice a5 n5 c5) n5 ((K ++ [id]).flatMap iC)) := Lib.hid (rowS_own HR5.out HN5.out)
                obtain ⟨gk, hgk, ck⟩ := row_at HROk.out HN5.out k (by rw [HN5.out]; omega)
                subst hgk
                have hzin : (K ++ [id])[k]'(by rw [HN5.out]; omega) ∈ (K ++ [id]) := List.getElem_mem _
                have hzf : (K ++ [id]).filter (fun z => decide (z ≠ (K ++ [id])[k]'(by rw [HN5.out]; omega))) = (K ++ [id]).eraseIdx k := filt_erase HS5.out.1.st (by rw [HN5.out]; omega)
                generalize (K ++ [id])[k]'(by rw [HN5.out]; omega) = z at ck hzin hzf
                have hki : KI z := HS5.out.1.ki z hzin
                have HZI := Lib.hid hzin; have HZF := Lib.hid hzf; have HKI := Lib.hid hki
                have hkn3 : (k : Int) < n5 := by omega
                have hkn4 : decide (n5 ≤ k) = false := by simp; omega
                clear hzin hzf hki
                go_wp2_with fail
                refine (sst_close HS5.out z HKI.out HZI.out).mono ?_
                rintro e w6 ⟨rfl, h6, k6⟩
                rw [HZF.out] at h6
                have HS6 := Lib.hid h6; have HR6 := Lib.hid (HR5.out.keep k6)
                clear h6 k6 ck cx
                have HRK : Hid (w6.ownsRow 0 2 1 (.slice (some ⟨gk, 0, none⟩) n5 c5) n5 ((K ++ [id]).flatMap iC)) := Lib.hid (rowS_own HR6.out HN5.out)
                have hcpb := row_cap HRK.out
                unfold maxLen at hcpb
                go_upto_region 21 with fail
                have K0 := Lib.hid ((Keep.refl NoF w6).drew)
                have SRC1 : Hid (∀ W, Keep NoF w6 W → Src Tryz.prog 1 45 (.slice (some ⟨gk, 0, none⟩) k c5) k (((K ++ [id]).take k).flatMap iC) W) := Lib.hid fun W hW => src_upto iC_len iC_one Tryz.underlying45 (row_keep HRK.out hW (fun _ _ f => f)) HN5.out k (by omega) c5
                have SRC2 : Hid (∀ W, Keep NoF w6 W → Src Tryz.prog 1 45 (.slice (fromA (some ⟨gk, 0, none⟩) (k + 1) c5 1) (n5 - (k + 1)) (c5 - (k + 1))) (n5 - (k + 1)) (((K ++ [id]).drop (k + 1)).flatMap iC) W) := Lib.hid fun W hW => src_from iC_len iC_one Tryz.underlying45 (row_keep HRK.out hW (fun _ _ f => f)) HN5.out (k + 1) (by omega) (c5 - (k + 1))
                have HHI := Lib.hid (fun W => run_upto (P := Tryz.prog) Tryz.underlying45 infoL (some ⟨gk, 0, none⟩) n5 c5 k (by omega) W)
                have hlo := fun W => run_from (P := Tryz.prog) Tryz.underlying45 infoL (some ⟨gk, 0, none⟩) n5 c5 (k + 1) (by omega) W
                rw [show ((k + 1 : Nat) : Int) = (k : Int) + 1 by omega] at hlo
                have HLO := Lib.hid hlo
                clear hlo
                have hsum : IntKind.i64.wrap ((k : Int) + 1) = (k : Int) + 1 := IntWalk.i64_in _ (by omega)
                refine wp_region_noPanic ?_
                refine wp_region_held_drew (S := (fun _ : World => True)) (by kernel_rfl) (trivial) (fun hHeld => ?_)
                refine wpAnyH_take (i := 0) (oi := ?oRA0) (v := ?vRA0) ?hiRA0 (by kernel_rfl) (by kernel_rfl) (by kernel_rfl) (fun _ _ _ h => h) (Or.inl ⟨?wRA0, ?yRA0⟩) (by assumption) ?rRA0
                case hiRA0 => (simp only [List.getElem?_toArray, List.getElem?_cons_zero]; try rfl)
                case wRA0 => rfl
                case yRA0 => (intro w hSw; (try dsimp only at hSw); go_simp; (try with_reducible rfl))
                (try simp only [Act.put, List.setIfInBounds_toArray, List.set_cons_zero, List.set_cons_succ])
                refine wpAnyH_take (i := 1) (oi := ?oRA1) (v := ?vRA1) ?hiRA1 (by kernel_rfl) (by kernel_rfl) (by kernel_rfl) (fun _ _ _ h => h) (Or.inl ⟨?wRA1, ?yRA1⟩) (by assumption) ?rRA1
                case hiRA1 => (simp only [List.getElem?_toArray, List.getElem?_cons_succ, List.getElem?_cons_zero]; try rfl)
                case wRA1 => rfl
                case yRA1 => (intro w hSw; (try dsimp only at hSw); go_simp; (try with_reducible rfl))
                (try simp only [Act.put, List.setIfInBounds_toArray, List.set_cons_zero, List.set_cons_succ])
                refine wpAnyH_take (i := 2) (oi := ?oRA2) (v := .slice (some ⟨gk, 0, none⟩) k c5) ?hiRA2 (by kernel_rfl) (by kernel_rfl) (by kernel_rfl) (fun _ _ _ h => h) (Or.inl ⟨?wRA2, ?yRA2⟩) (by assumption) ?rRA2
                case hiRA2 => (simp only [List.getElem?_toArray, List.getElem?_cons_succ, List.getElem?_cons_zero]; try rfl)
                case wRA2 => rfl
                case yRA2 => (intro w hSw; exact slice_yields rfl (HHI.out w))
                (try simp only [Act.put, List.setIfInBounds_toArray, List.set_cons_zero, List.set_cons_succ])
                refine wpAnyH_take (i := 4) (oi := ?oRA4) (v := ?vRA4) ?hiRA4 (by kernel_rfl) (by kernel_rfl) (by kernel_rfl) (fun _ _ _ h => h) (Or.inl ⟨?wRA4, ?yRA4⟩) (by assumption) ?rRA4
                case hiRA4 => (simp only [List.getElem?_toArray, List.getElem?_cons_succ, List.getElem?_cons_zero]; try rfl)
                case wRA4 => rfl
                case yRA4 => (intro w hSw; (try dsimp only at hSw); go_simp; (try with_reducible rfl))
                (try simp only [Act.put, List.setIfInBounds_toArray, List.set_cons_zero, List.set_cons_succ])
                refine wpAnyH_take (i := 5) (oi := ?oRA5) (v := ?vRA5) ?hiRA5 (by kernel_rfl) (by kernel_rfl) (by kernel_rfl) (fun _ _ _ h => h) (Or.inl ⟨?wRA5, ?yRA5⟩) (by assumption) ?rRA5
                case hiRA5 => (simp only [List.getElem?_toArray, List.getElem?_cons_succ, List.getElem?_cons_zero]; try rfl)
                case wRA5 => rfl
                case yRA5 => (intro w hSw; (try dsimp only at hSw); go_simp; (try with_reducible rfl))
                (try simp only [Act.put, List.setIfInBounds_toArray, List.set_cons_zero, List.set_cons_succ])
                refine wpAnyH_take (i := 6) (oi := ?oRA6) (v := ?vRA6) ?hiRA6 (by kernel_rfl) (by kernel_rfl) (by kernel_rfl) (fun _ _ _ h => h) (Or.inl ⟨?wRA6, ?yRA6⟩) (by assumption) ?rRA6
                case hiRA6 => (simp only [List.getElem?_toArray, List.getElem?_cons_succ, List.getElem?_cons_zero]; try rfl)
                case wRA6 => rfl
                case yRA6 => (intro w hSw; (try dsimp only at hSw); go_simp; (try with_reducible rfl))
                (try simp only [Act.put, List.setIfInBounds_toArray, List.set_cons_zero, List.set_cons_succ])
                refine wpAnyH_take (i := 7) (oi := ?oRA7) (v := .slice (fromA (some ⟨gk, 0, none⟩) (k + 1) c5 1) (n5 - (k + 1)) (c5 - (k + 1))) ?hiRA7 (by kernel_rfl) (by kernel_rfl) (by kernel_rfl) (fun _ _ _ h => h) (Or.inl ⟨?wRA7, ?yRA7⟩) (by assumption) ?rRA7
                case hiRA7 => (simp only [List.getElem?_toArray, List.getElem?_cons_succ, List.getElem?_cons_zero]; try rfl)
                case wRA7 => rfl
                case yRA7 => (intro w hSw; exact slice_yields rfl (HLO.out w))
                (try simp only [Act.put, List.setIfInBounds_toArray, List.set_cons_zero, List.set_cons_succ])
                refine wpAnyH_ready (rs := [3]) (by kernel_rfl) (by simp) ?_
                refine (AllReadyH.cons (o := ?oRA3) ?hiRA3 (fun K hK => ?_) AllReadyH.nil)
                case hiRA3 => (simp only [List.getElem?_toArray, List.getElem?_cons_succ, List.getElem?_cons_zero]; try rfl)
                refine step_app 45 45 2 (.int .i64 0) 1 8 Tryz.underlying45 infoL rfl (by decide) (by decide) rfl rfl rfl rfl (v := .slice none 0 0) (sv := (.slice (some ⟨gk, 0, none⟩) k c5)) (World.ownsRow_nil _ _ _ _) (SRC1.out _ (K0.out)) (by omega) ?_
                intro a1 c1 W1' hown1 hgr1 hfr1
                simp only [Nat.zero_add, List.nil_append] at hown1 hgr1 hfr1 ⊢
                have kA : Keep NoF w6 W1' := (K0.out).grown hgr1 (fun k _ e => by cases e)
                have fr1 : ∀ b, (Value.slice a1 k c1).ownBlock = some b → w6.heap.size ≤ b := fun b hk => by
                  rcases hfr1 with f | f
                  · rw [f] at hk; cases hk
                  · rw [f] at hk; injection hk with hk; exact Nat.le_trans (K0.out).size (Nat.le_of_eq hk)
                refine hK.out _ _ (trivial) (fun hHeld => ?_)
                clear hK K
                (try simp only [Act.put, List.setIfInBounds_toArray, List.set_cons_zero, List.set_cons_succ])
                refine wpAnyH_ready (rs := [8]) (by kernel_rfl) (by simp) ?_
                refine (AllReadyH.cons (o := ?oRA8) ?hiRA8 (fun K hK => ?_) AllReadyH.nil)
                case hiRA8 => (simp only [List.getElem?_toArray, List.getElem?_cons_succ, List.getElem?_cons_zero]; try rfl)
                refine step_app 45 45 2 (.int .i64 0) 1 8 Tryz.underlying45 infoL rfl (by decide) (by decide) rfl rfl rfl rfl (v := .slice a1 k c1) (sv := (.slice (fromA (some ⟨gk, 0, none⟩) (k + 1) c5 1) (n5 - (k + 1)) (c5 - (k + 1)))) (hown1) (SRC2.out _ kA) (by omega) ?_
                intro a3 c3 W3 hown3 hgr3 hfr3
                have kB : Keep NoF w6 W3 := kA.grown hgr3 (fun b hk e => by have := fr1 b e; omega)
                have fr3 : ∀ b, (Value.slice a3 (k + (n5 - (k + 1))) c3).ownBlock = some b → w6.heap.size ≤ b := fun b hk => by
                  rcases hfr3 with f | f
                  · rw [f] at hk; exact fr1 b hk
                  · rw [f] at hk; injection hk with hk; exact Nat.le_trans (kA).size (Nat.le_of_eq hk)
                refine hK.out _ _ (trivial) (fun hHeld => ?_)
                clear hK K
                (try simp only [Act.put, List.setIfInBounds_toArray, List.set_cons_zero, List.set_cons_succ])
                refine wpAnyH_take (i := 9) (oi := ?oRA9) (v := ?vRA9) ?hiRA9 (by kernel_rfl) (by kernel_rfl) (by kernel_rfl) (fun _ _ _ h => h) (Or.inl ⟨?wRA9, ?yRA9⟩) (by assumption) ?rRA9
                case hiRA9 => (simp only [List.getElem?_toArray, List.getElem?_cons_succ, List.getElem?_cons_zero]; try rfl)
                case wRA9 => rfl
                case yRA9 => (intro w hSw; (try dsimp only at hSw); go_simp; (try with_reducible rfl))
                (try simp only [Act.put, List.setIfInBounds_toArray, List.set_cons_zero, List.set_cons_succ])
                refine wpAnyH_done (by kernel_rfl) ?_ _
                refine NoPanic.normal ?_
                have e1 : k + (n5 - (k + 1)) = n5 - 1 := by omega
                have e2 : ((K ++ [id]).eraseIdx k).length = n5 - 1 := by rw [List.length_eraseIdx_of_lt (by rw [HN5.out]; exact hkn2), HN5.out]
                rw [e1] at hown3 fr3 ⊢
                have hr7 : RowP 2 w6.heap.size W3 (.slice a3 (n5 - 1) c3) ((K ++ [id]).eraseIdx k) := ⟨a3, c3, by rw [e2], by rw [e2, List.eraseIdx_eq_take_drop_succ, List.flatMap_append]; exact hown3, fr3⟩
                have HNY : Hid (SN w W3 p mb tp tm (i + 1) (.slice a3 (n5 - 1) c3)) := Lib.hid ⟨(nb + 1), (last + 1), (K ++ [id]).eraseIdx k, (tdUp td id 0), (agUp ag id), hnb5, by omega, by rw [e2]; omega, HS6.out.keepN kB, RowS.new hr7 HS6.out⟩
                clear hown1 hgr1 hfr1 fr1 hown3 hgr3 hfr3 fr3 kA kB hr7 e1 e2
                go_wp2_with fail
                go_roundw
                case rel => exact ⟨i + 1, by omega, by go_num, HNY.out⟩
                case measure => simp [intOf]; omega
              · have h1n2 : ¬ (1 : Int) < n5 := by omega
                have h1n3 : decide ((1 : Int) < n5) = false := by simp; omega
                go_wp2_with fail
                go_roundw
                case rel => exact ⟨i + 1, by omega, by go_num, HNX.out⟩
                case measure => simp [intOf]; omega
            · have hbit2 : (bits BinOp.and IntKind.i64 x 1 == 1) = false := by simp [hbit]
              go_wp2_with fail
              go_roundw
              case rel => exact ⟨i + 1, by omega, by go_num, HNX.out⟩
              case measure => simp [intOf]; omega
        · have hn20 : n = 20 := by omega
          have hn21 : ((n : Int) != 20) = false := by simp; omega
          have hop := fun W (hW : W = wr) => sopen_full (hW ▸ HS.out.1) (by rw [HN.out]; omega)
          clear hn20
          go_wp2_with fail
          refine (hop wr rfl).mono ?_
          rintro e w' ⟨rfl, hw⟩
          obtain rfl : wr = w' := hw.symm
          go_upto_region 16 with fail
          have HS5 := HS; have HR5 := HR; have HN5 := HN
          have hnb5 : nb ≤ i + 1 := by omega
          have hla5 : last ≤ (i : Int) + 1 := by omega
          have hk5 : n ≤ 20 := hK20
          have cx : wr.cell? ⟨gl, ol + i, none⟩ = some (.int .i64 x) := HS5.out.kp.cell' HCL.out (fun f => f)
          have KP5 := Lib.hid HS5.out.kp
          have HNX : Hid (SN w wr p mb tp tm (i + 1) (.slice ao n cp)) := Lib.hid ⟨nb, last, K, td, ag, hnb5, by omega, by rw [HN5.out]; exact hk5, HS5.out, HR5.out⟩
          by_cases hbit : bits BinOp.and IntKind.i64 x 1 = 1
          · have hbit2 : (bits BinOp.and IntKind.i64 x 1 == 1) = true := by simp [hbit]
            by_cases h1n : 1 < n
            · have h1n2 : (1 : Int) < n := by omega
              have h1n3 : decide ((1 : Int) < n) = true := by simp; omega
              have hpk := pos_k x n h1n
              obtain ⟨k, hk, hkb⟩ : ∃ k : Nat, (wrap64 (x.tmod (n : Int) + n)).tmod ((n : Int) - 1) = k ∧ k + 1 < n := by
                have e : wrap64 (x.tmod (n : Int) + n) = x.tmod n + n := by unfold wrap64; omega
                rw [e]
                exact ⟨((x.tmod n + n).tmod ((n : Int) - 1)).toNat, (Int.toNat_of_nonneg hpk.1).symm, by have := hpk.1; have := hpk.2.1; omega⟩
              clear hpk
              go_upto_region 18 with fail
              (try rw [hk])
              clear hk
              have hkn2 : k < n := by omega
              have HROk : Hid (wr.ownsRow 0 2 1 (.slice ao n cp) n (K.flatMap iC)) := Lib.hid (rowS_own HR5.out HN5.out)
              obtain ⟨gk, hgk, ck⟩ := row_at HROk.out HN5.out k (by rw [HN5.out]; omega)
              subst hgk
              have hzin : K[k]'(by rw [HN5.out]; omega) ∈ K := List.getElem_mem _
              have hzf : K.filter (fun z => decide (z ≠ K[k]'(by rw [HN5.out]; omega))) = K.eraseIdx k := filt_erase HS5.out.1.st (by rw [HN5.out]; omega)
              generalize K[k]'(by rw [HN5.out]; omega) = z at ck hzin hzf
              have hki : KI z := HS5.out.1.ki z hzin
              have HZI := Lib.hid hzin; have HZF := Lib.hid hzf; have HKI := Lib.hid hki
              have hkn3 : (k : Int) < n := by omega
              have hkn4 : decide (n ≤ k) = false := by simp; omega
              clear hzin hzf hki
              go_wp2_with fail
              refine (sst_close HS5.out z HKI.out HZI.out).mono ?_
              rintro e w6 ⟨rfl, h6, k6⟩
              rw [HZF.out] at h6
              have HS6 := Lib.hid h6; have HR6 := Lib.hid (HR5.out.keep k6)
              clear h6 k6 ck cx
              have HRK : Hid (w6.ownsRow 0 2 1 (.slice (some ⟨gk, 0, none⟩) n cp) n (K.flatMap iC)) := Lib.hid (rowS_own HR6.out HN5.out)
              have hcpb := row_cap HRK.out
              unfold maxLen at hcpb
              go_upto_region 21 with fail
              have K0 := Lib.hid ((Keep.refl NoF w6).drew)
              have SRC1 : Hid (∀ W, Keep NoF w6 W → Src Tryz.prog 1 45 (.slice (some ⟨gk, 0, none⟩) k cp) k ((K.take k).flatMap iC) W) := Lib.hid fun W hW => src_upto iC_len iC_one Tryz.underlying45 (row_keep HRK.out hW (fun _ _ f => f)) HN5.out k (by omega) cp
              have SRC2 : Hid (∀ W, Keep NoF w6 W → Src Tryz.prog 1 45 (.slice (fromA (some ⟨gk, 0, none⟩) (k + 1) cp 1) (n - (k + 1)) (cp - (k + 1))) (n - (k + 1)) ((K.drop (k + 1)).flatMap iC) W) := Lib.hid fun W hW => src_from iC_len iC_one Tryz.underlying45 (row_keep HRK.out hW (fun _ _ f => f)) HN5.out (k + 1) (by omega) (cp - (k + 1))
              have HHI := Lib.hid (fun W => run_upto (P := Tryz.prog) Tryz.underlying45 infoL (some ⟨gk, 0, none⟩) n cp k (by omega) W)
              have hlo := fun W => run_from (P := Tryz.prog) Tryz.underlying45 infoL (some ⟨gk, 0, none⟩) n cp (k + 1) (by omega) W
              rw [show ((k + 1 : Nat) : Int) = (k : Int) + 1 by omega] at hlo
              have HLO := Lib.hid hlo
              clear hlo
              have hsum : IntKind.i64.wrap ((k : Int) + 1) = (k : Int) + 1 := IntWalk.i64_in _ (by omega)
              refine wp_region_noPanic ?_
              refine wp_region_held_drew (S := (fun _ : World => True)) (by kernel_rfl) (trivial) (fun hHeld => ?_)
              refine wpAnyH_take (i := 0) (oi := ?oRB0) (v := ?vRB0) ?hiRB0 (by kernel_rfl) (by kernel_rfl) (by kernel_rfl) (fun _ _ _ h => h) (Or.inl ⟨?wRB0, ?yRB0⟩) (by assumption) ?rRB0
              case hiRB0 => (simp only [List.getElem?_toArray, List.getElem?_cons_zero]; try rfl)
              case wRB0 => rfl
              case yRB0 => (intro w hSw; (try dsimp only at hSw); go_simp; (try with_reducible rfl))
              (try simp only [Act.put, List.setIfInBounds_toArray, List.set_cons_zero, List.set_cons_succ])
              refine wpAnyH_take (i := 1) (oi := ?oRB1) (v := ?vRB1) ?hiRB1 (by kernel_rfl) (by kernel_rfl) (by kernel_rfl) (fun _ _ _ h => h) (Or.inl ⟨?wRB1, ?yRB1⟩) (by assumption) ?rRB1
              case hiRB1 => (simp only [List.getElem?_toArray, List.getElem?_cons_succ, List.getElem?_cons_zero]; try rfl)
              case wRB1 => rfl
              case yRB1 => (intro w hSw; (try dsimp only at hSw); go_simp; (try with_reducible rfl))
              (try simp only [Act.put, List.setIfInBounds_toArray, List.set_cons_zero, List.set_cons_succ])
              refine wpAnyH_take (i := 2) (oi := ?oRB2) (v := .slice (some ⟨gk, 0, none⟩) k cp) ?hiRB2 (by kernel_rfl) (by kernel_rfl) (by kernel_rfl) (fun _ _ _ h => h) (Or.inl ⟨?wRB2, ?yRB2⟩) (by assumption) ?rRB2
              case hiRB2 => (simp only [List.getElem?_toArray, List.getElem?_cons_succ, List.getElem?_cons_zero]; try rfl)
              case wRB2 => rfl
              case yRB2 => (intro w hSw; exact slice_yields rfl (HHI.out w))
              (try simp only [Act.put, List.setIfInBounds_toArray, List.set_cons_zero, List.set_cons_succ])
              refine wpAnyH_take (i := 4) (oi := ?oRB4) (v := ?vRB4) ?hiRB4 (by kernel_rfl) (by kernel_rfl) (by kernel_rfl) (fun _ _ _ h => h) (Or.inl ⟨?wRB4, ?yRB4⟩) (by assumption) ?rRB4
              case hiRB4 => (simp only [List.getElem?_toArray, List.getElem?_cons_succ, List.getElem?_cons_zero]; try rfl)
              case wRB4 => rfl
              case yRB4 => (intro w hSw; (try dsimp only at hSw); go_simp; (try with_reducible rfl))
              (try simp only [Act.put, List.setIfInBounds_toArray, List.set_cons_zero, List.set_cons_succ])
              refine wpAnyH_take (i := 5) (oi := ?oRB5) (v := ?vRB5) ?hiRB5 (by kernel_rfl) (by kernel_rfl) (by kernel_rfl) (fun _ _ _ h => h) (Or.inl ⟨?wRB5, ?yRB5⟩) (by assumption) ?rRB5
              case hiRB5 => (simp only [List.getElem?_toArray, List.getElem?_cons_succ, List.getElem?_cons_zero]; try rfl)
              case wRB5 => rfl
              case yRB5 => (intro w hSw; (try dsimp only at hSw); go_simp; (try with_reducible rfl))
              (try simp only [Act.put, List.setIfInBounds_toArray, List.set_cons_zero, List.set_cons_succ])
              refine wpAnyH_take (i := 6) (oi := ?oRB6) (v := ?vRB6) ?hiRB6 (by kernel_rfl) (by kernel_rfl) (by kernel_rfl) (fun _ _ _ h => h) (Or.inl ⟨?wRB6, ?yRB6⟩) (by assumption) ?rRB6
              case hiRB6 => (simp only [List.getElem?_toArray, List.getElem?_cons_succ, List.getElem?_cons_zero]; try rfl)
              case wRB6 => rfl
              case yRB6 => (intro w hSw; (try dsimp only at hSw); go_simp; (try with_reducible rfl))
              (try simp only [Act.put, List.setIfInBounds_toArray, List.set_cons_zero, List.set_cons_succ])
              refine wpAnyH_take (i := 7) (oi := ?oRB7) (v := .slice (fromA (some ⟨gk, 0, none⟩) (k + 1) cp 1) (n - (k + 1)) (cp - (k + 1))) ?hiRB7 (by kernel_rfl) (by kernel_rfl) (by kernel_rfl) (fun _ _ _ h => h) (Or.inl ⟨?wRB7, ?yRB7⟩) (by assumption) ?rRB7
              case hiRB7 => (simp only [List.getElem?_toArray, List.getElem?_cons_succ, List.getElem?_cons_zero]; try rfl)
              case wRB7 => rfl
              case yRB7 => (intro w hSw; exact slice_yields rfl (HLO.out w))
              (try simp only [Act.put, List.setIfInBounds_toArray, List.set_cons_zero, List.set_cons_succ])
              refine wpAnyH_ready (rs := [3]) (by kernel_rfl) (by simp) ?_
              refine (AllReadyH.cons (o := ?oRB3) ?hiRB3 (fun K hK => ?_) AllReadyH.nil)
              case hiRB3 => (simp only [List.getElem?_toArray, List.getElem?_cons_succ, List.getElem?_cons_zero]; try rfl)
              refine step_app 45 45 2 (.int .i64 0) 1 8 Tryz.underlying45 infoL rfl (by decide) (by decide) rfl rfl rfl rfl (v := .slice none 0 0) (sv := (.slice (some ⟨gk, 0, none⟩) k cp)) (World.ownsRow_nil _ _ _ _) (SRC1.out _ (K0.out)) (by omega) ?_
              intro a1 c1 W1' hown1 hgr1 hfr1
              simp only [Nat.zero_add, List.nil_append] at hown1 hgr1 hfr1 ⊢
              have kA : Keep NoF w6 W1' := (K0.out).grown hgr1 (fun k _ e => by cases e)
              have fr1 : ∀ b, (Value.slice a1 k c1).ownBlock = some b → w6.heap.size ≤ b := fun b hk => by
                rcases hfr1 with f | f
                · rw [f] at hk; cases hk
                · rw [f] at hk; injection hk with hk; exact Nat.le_trans (K0.out).size (Nat.le_of_eq hk)
              refine hK.out _ _ (trivial) (fun hHeld => ?_)
              clear hK K
              (try simp only [Act.put, List.setIfInBounds_toArray, List.set_cons_zero, List.set_cons_succ])
              refine wpAnyH_ready (rs := [8]) (by kernel_rfl) (by simp) ?_
              refine (AllReadyH.cons (o := ?oRB8) ?hiRB8 (fun K hK => ?_) AllReadyH.nil)
              case hiRB8 => (simp only [List.getElem?_toArray, List.getElem?_cons_succ, List.getElem?_cons_zero]; try rfl)
              refine step_app 45 45 2 (.int .i64 0) 1 8 Tryz.underlying45 infoL rfl (by decide) (by decide) rfl rfl rfl rfl (v := .slice a1 k c1) (sv := (.slice (fromA (some ⟨gk, 0, none⟩) (k + 1) cp 1) (n - (k + 1)) (cp - (k + 1)))) (hown1) (SRC2.out _ kA) (by omega) ?_
              intro a3 c3 W3 hown3 hgr3 hfr3
              have kB : Keep NoF w6 W3 := kA.grown hgr3 (fun b hk e => by have := fr1 b e; omega)
              have fr3 : ∀ b, (Value.slice a3 (k + (n - (k + 1))) c3).ownBlock = some b → w6.heap.size ≤ b := fun b hk => by
                rcases hfr3 with f | f
                · rw [f] at hk; exact fr1 b hk
                · rw [f] at hk; injection hk with hk; exact Nat.le_trans (kA).size (Nat.le_of_eq hk)
              refine hK.out _ _ (trivial) (fun hHeld => ?_)
              clear hK K
              (try simp only [Act.put, List.setIfInBounds_toArray, List.set_cons_zero, List.set_cons_succ])
              refine wpAnyH_take (i := 9) (oi := ?oRB9) (v := ?vRB9) ?hiRB9 (by kernel_rfl) (by kernel_rfl) (by kernel_rfl) (fun _ _ _ h => h) (Or.inl ⟨?wRB9, ?yRB9⟩) (by assumption) ?rRB9
              case hiRB9 => (simp only [List.getElem?_toArray, List.getElem?_cons_succ, List.getElem?_cons_zero]; try rfl)
              case wRB9 => rfl
              case yRB9 => (intro w hSw; (try dsimp only at hSw); go_simp; (try with_reducible rfl))
              (try simp only [Act.put, List.setIfInBounds_toArray, List.set_cons_zero, List.set_cons_succ])
              refine wpAnyH_done (by kernel_rfl) ?_ _
              refine NoPanic.normal ?_
              have e1 : k + (n - (k + 1)) = n - 1 := by omega
              have e2 : (K.eraseIdx k).length = n - 1 := by rw [List.length_eraseIdx_of_lt (by rw [HN5.out]; exact hkn2), HN5.out]
              rw [e1] at hown3 fr3 ⊢
              have hr7 : RowP 2 w6.heap.size W3 (.slice a3 (n - 1) c3) (K.eraseIdx k) := ⟨a3, c3, by rw [e2], by rw [e2, List.eraseIdx_eq_take_drop_succ, List.flatMap_append]; exact hown3, fr3⟩
              have HNY : Hid (SN w W3 p mb tp tm (i + 1) (.slice a3 (n - 1) c3)) := Lib.hid ⟨nb, last, K.eraseIdx k, td, ag, hnb5, by omega, by rw [e2]; omega, HS6.out.keepN kB, RowS.new hr7 HS6.out⟩
              clear hown1 hgr1 hfr1 fr1 hown3 hgr3 hfr3 fr3 kA kB hr7 e1 e2
              go_wp2_with fail
              go_roundw
              case rel => exact ⟨i + 1, by omega, by go_num, HNY.out⟩
              case measure => simp [intOf]; omega
            · have h1n2 : ¬ (1 : Int) < n := by omega
              have h1n3 : decide ((1 : Int) < n) = false := by simp; omega
              go_wp2_with fail
              go_roundw
              case rel => exact ⟨i + 1, by omega, by go_num, HNX.out⟩
              case measure => simp [intOf]; omega
          · have hbit2 : (bits BinOp.and IntKind.i64 x 1 == 1) = false := by simp [hbit]
            go_wp2_with fail
            go_roundw
            case rel => exact ⟨i + 1, by omega, by go_num, HNX.out⟩
            case measure => simp [intOf]; omega
      · have h60b : ¬ (i : Int) < 60 := by omega
        have h60c : decide ((i : Int) < 60) = false := by simp [h60b]
        go_wp2_with fail
        go_ret
        exact ⟨rfl, KP.out⟩
    · have hlt2 : ¬ (i : Int) < len := by omega
      have hlt3 : decide (i < len) = false := by simp [hlt]
      have hlt4 : decide (len ≤ i) = true := by simp; omega
      go_wp2_with fail
      go_ret
      exact ⟨rfl, KP.out⟩

set_option linter.unusedVariables false
set_option maxRecDepth 100000 in
theorem lifted (os : Os) (started : os.Started) (H : Type) (enc : TypeId × Value → H) :
    ReturnsInHanded {} Tryz.checked os 6 .any (Rows.sessNumbersSpec.pre6 enc Tryz.prog Tryz.f6 Rows.sessNumbersRow.domain false) (Rows.sessNumbersSpec.post enc Tryz.prog Tryz.f6 false true false false) := by
  refine returnsInHanded_of_change (C := Tryz.checked) own started (by kernel_rfl) Tryz.func6
    (ChangeSpec.witness6 (enc := enc) (C := Tryz.checked) false ⟨#[], #[.slice none 0 0], []⟩ 8 (by kernel_rfl) (by kernel_rfl) (by kernel_rfl) (by kernel_rfl)) ?_
  intro W base args ds gs before hval0 hW hcnd _
  have hval : ∀ (j : Nat) t v, Tryz.f6.params[j]? = some t → args[j]? = some v → Value.okWide Tryz.prog W .any base t v := hval0
  have hW' := hW
  obtain ⟨p, q, hA0, hV, rfl, hfz, hnd⟩ := hW
  have hA : DataW.TrodAll enc Tryz.prog W 0 (fun _ => true) true Tryz.f6.params.toList args.toList ds p := hA0
  rw [Tryz.params6] at hA hval
  obtain ⟨v0, vs0, d0, ds0, p0, q0, hargs, rfl, rfl, h0, r0⟩ := trodAll_cons hA
  obtain ⟨rfl, rfl, rfl⟩ := trodAll_nil r0
  obtain rfl : args = #[v0] := by cases args; simp_all
  obtain ⟨rfl, rfl⟩ := trodVars_none hV
  obtain ⟨a0, len0, cap0, rfl⟩ := okWide_slice Tryz.underlying44 (hval 0 44 v0 rfl rfl)
  have k0 := h0
  have lt0 : ∀ x ∈ p0, x.block < W.heap.size := by obtain ⟨m, hm⟩ := k0; exact DataW.trod_lt m _ _ _ hm
  obtain ⟨z0, w0⟩ : ∃ zs, IsRow .i64 W a0 len0 cap0 zs := by
    obtain ⟨fuel, hf⟩ := h0
    rcases open_ints Tryz.underlying44 Tryz.underlying3 (by kernel_rfl) hf with ⟨hcs, _⟩ | ⟨x, l, c, zs, hcs, _, hl, hm, hz, _, hcell, hwz⟩
    · simp [Value.cells] at hcs
      obtain ⟨rfl, rfl, rfl⟩ := hcs
      exact ⟨[], .inl ⟨rfl, rfl, rfl, rfl⟩⟩
    · simp [Value.cells] at hcs
      obtain ⟨rfl, rfl, rfl⟩ := hcs
      exact ⟨zs, .inr ⟨_, rfl, hl, hm, by simpa using hz, hcell, hwz⟩⟩
  clear hA0 hval0
  refine (walk W a0 len0 cap0 z0 w0).mono fun e W' ⟨he, hk⟩ => ?_
  subst he
  have bel := Keep.below hk
  exact ⟨_, rfl, _, _, _, [], _, [], hW', trodAll_mk1 (shut_bool Tryz.underlying4 _), (trodAll_cons_mk (Below.trod laidOut (by kernel_rfl) (of_decide_eq_true (by kernel_rfl)) k0 bel lt0) trodAll_mk0), rfl, bel.frame _, fun h => by cases h⟩

theorem over : Rows.sessNumbersRow.holds Tryz.pinned (OpenSpec.ofChange Rows.sessNumbersSpec) :=
  OpenClaim.holds_of_wide 6 Tryz.f6 rfl rfl rfl rfl rfl rfl rfl ⟨rfl, rfl, rfl, rfl, rfl⟩ rfl rfl rfl rfl rfl (by kernel_rfl) Tryz.func6 (by kernel_rfl)
    (of_decide_eq_true (by kernel_rfl)) (by unfold Func.isWrapper; rw [if_neg (of_decide_eq_false (by kernel_rfl))]; exact ⟨rfl, rfl⟩)
    (fun os started H enc _ => lifted os started H enc)

/-- The statement. -/
theorem proved : Rows.SessNumbersSaid := over
#print axioms proved
end Go.Proofs.YtdbgplnjppaimaaGreat.sessNumbers
