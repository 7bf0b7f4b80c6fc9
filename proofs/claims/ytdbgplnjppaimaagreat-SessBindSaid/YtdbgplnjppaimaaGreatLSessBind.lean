/- SessBind: the law returns true and changes nothing that was there. No conditions. -/
import Derived.Test.YtdbgplnjppaimaaGreatLaw13r
import Derived.Test.YtdbgplnjppaimaaGreatRows
import Derived.WalkKit
import Derived.ProofKit
import Derived.OpenShut
import Derived.ShutString
import Derived.ChangeOld
import Derived.Below
namespace Go.Proofs.YtdbgplnjppaimaaGreat.sessBind
open Go Go.ChangeShapes Go.WideShapes Go.ChangeAt Go.RowKit
open Go.ChangeMaps (open_string shut_string)

theorem own : ownKnob Tryz.prog.godebug = none := by kernel_rfl
theorem laidOut : laidOutB Tryz.prog = true := by kernel_rfl

open Go.Proofs Go.RowKit Go.Maps Go.Sort Go.Shelf
def idB (j : Nat) : Int := 1 * 4294967296 + ((j : Int) + 1)
theorem idB_in {j : Nat} (hj : j < 4) : idB j ∈ idl 1 4 := mem_idl.2 (by unfold idB; omega)
theorem idl_get {m j : Nat} (h : j < (idl 1 m).length) : (idl 1 m)[j] = idB j := by simp [idl, idB]
theorem idB_ki {j : Nat} (hj : j < 4) : KI (idB j) := ki_small (by unfold idB; omega)
theorem of_idB {x : Int} (h : x ∈ idl 1 4) : ∃ j : Nat, j < 4 ∧ x = idB j := by
  have := mem_idl.1 h
  exact ⟨(x - 4294967297).toNat, by omega, by unfold idB; omega⟩
theorem idB_inj {i j : Nat} (h : idB i = idB j) : i = j := by unfold idB at h; omega
/-- The law's own four. -/
def HB (W : World) (H : Nat) (td : Int → Int) : Prop := W.heap[H]? = some (.cells #[.int .i64 (td (idB 0)), .int .i64 (td (idB 1)), .int .i64 (td (idB 2)), .int .i64 (td (idB 3))] 58 (0, 0))
theorem HB.cell {W : World} {H : Nat} {td : Int → Int} (h : HB W H td) {j : Nat} (hj : j < 4) : W.cell? ⟨H, j, none⟩ = some (.int .i64 (td (idB j))) := by
  have h1 := cell_of_heap h j
  rw [h1]
  match j, hj with
  | 0, _ => rfl
  | 1, _ => rfl
  | 2, _ => rfl
  | 3, _ => rfl
theorem HB.set {W : World} {H : Nat} {td : Int → Int} (h : HB W H td) {k : Nat} (hk : k < 4) (t : Int) : HB (W.setCell ⟨H, k, none⟩ (.int .i64 t)) H (tdUp td (idB k) t) := by
  unfold HB at h ⊢
  have hne : ∀ i j : Nat, i ≠ j → tdUp td (idB i) t (idB j) = td (idB j) := fun i j hij => if_neg (fun e => hij (idB_inj e).symm)
  have heq : ∀ i : Nat, tdUp td (idB i) t (idB i) = t := fun i => if_pos rfl
  match k, hk with
  | 0, _ => rw [heq 0, hne 0 1 (by omega), hne 0 2 (by omega), hne 0 3 (by omega)]; simp [World.setCell, Array.getElem?_modify, h]
  | 1, _ => rw [heq 1, hne 1 0 (by omega), hne 1 2 (by omega), hne 1 3 (by omega)]; simp [World.setCell, Array.getElem?_modify, h]
  | 2, _ => rw [heq 2, hne 2 0 (by omega), hne 2 1 (by omega), hne 2 3 (by omega)]; simp [World.setCell, Array.getElem?_modify, h]
  | 3, _ => rw [heq 3, hne 3 0 (by omega), hne 3 1 (by omega), hne 3 2 (by omega)]; simp [World.setCell, Array.getElem?_modify, h]
theorem rowS_own {w wr : World} {ao : Option Addr} {n cp : Nat} {K : List Int} {p mb tp tm : Nat} (h : RowS w wr (.slice ao n cp) K p mb tp tm) (hn : K.length = n) : wr.ownsRow 0 2 1 (.slice ao n cp) n (K.flatMap iC) := by
  obtain ⟨⟨ao', cp', e, h1, _⟩, _⟩ := h
  rw [hn] at e h1
  cases e
  exact h1
/-- Has one of the first n, other than the k-th, the transaction t? -/
def takB (td : Int → Int) (k : Nat) (t : Int) (n : Nat) : Bool := (List.range n).any fun j => (j != k) && (t != 0) && (td (idB j) == t)
theorem takB_succ (td : Int → Int) (k : Nat) (t : Int) (n : Nat) : takB td k t (n + 1) = (takB td k t n || ((n != k) && (t != 0) && (td (idB n) == t))) := by
  unfold takB; rw [List.range_succ, List.any_append]; simp
theorem takB_iff {td : Int → Int} {k : Nat} {t : Int} : takB td k t 4 = true ↔ Taken (idl 1 4) td (idB k) t := by
  unfold takB Taken
  rw [List.any_eq_true]
  constructor
  · rintro ⟨j, hj, h⟩
    simp only [Bool.and_eq_true, bne_iff_ne, ne_eq, beq_iff_eq] at h
    exact ⟨h.1.2, idB j, idB_in (List.mem_range.1 hj), fun e => h.1.1 (idB_inj e), h.2⟩
  · rintro ⟨ht, y, hy, hyx, hyt⟩
    obtain ⟨j, hj, rfl⟩ := of_idB hy
    exact ⟨j, List.mem_range.2 hj, by simp only [Bool.and_eq_true, bne_iff_ne, ne_eq, beq_iff_eq]; exact ⟨⟨fun e => hyx (by rw [e]), ht⟩, hyt⟩⟩
/-- The state of the law. -/
structure BS (w wr : World) (p mb tp tm nb H : Nat) (v : Value) (td ag : Int → Int) : Prop where
  s : SSt w wr p mb tp tm nb 1 4 (idl 1 4) td ag
  r : RowS w wr v (idl 1 4) p mb tp tm
  h : HB wr H td
  n : w.heap.size ≤ H ∧ H ≠ p ∧ H ≠ mb ∧ H ≠ tp ∧ H ≠ tm ∧ v.ownBlock ≠ some H
theorem BS.keepN {w wr wc : World} {p mb tp tm nb H : Nat} {v : Value} {td ag : Int → Int} (h : BS w wr p mb tp tm nb H v td ag) (hk : Keep NoF wr wc) : BS w wc p mb tp tm nb H v td ag :=
  ⟨h.s.keepN hk, h.r.keepN hk, by unfold HB; rw [hk.block H (lt_of_heap h.h) (fun f => f)]; exact h.h, h.n⟩
theorem tmod4 (x : Int) : -4 < x.tmod 4 ∧ x.tmod 4 < 4 := by
  have h1 := Int.tmod_lt_of_pos x (b := 4) (by omega)
  refine ⟨?_, h1⟩
  rcases Int.le_total 0 x with h | h
  · have := Int.tmod_nonneg 4 h; omega
  · have h3 := Int.tmod_lt_of_pos (-x) (b := 4) (by omega)
    rw [Int.neg_tmod] at h3; omega
theorem mod4 (x : Int) : ∃ k : Nat, (x.tmod 4 + 4) % 4 = k ∧ k < 4 := ⟨((x.tmod 4 + 4) % 4).toNat, by omega, by omega⟩
set_option maxHeartbeats 16000000 in
set_option maxRecDepth 8000 in
theorem walk (w : World) (ao0 : Option Addr) (len cap : Nat) (l : List Int) (h : IsRow .i64 w ao0 len cap l) :
    Calls Tryz.prog 9 #[.slice ao0 len cap] w fun e w' => e = .returned (.bool true) ∧ Keep NoF w w' := by
  have HL := Lib.hid h
  clear h
  go_enter Tryz.func9, Tryz.ntmps9
  go_wp2_with fail
  refine (begun13_any w).mono ?_
  rintro e w1 ⟨rfl, hk⟩
  have K1 := Lib.hid hk
  clear hk
  go_wp2_with fail
  refine (newSes_any 1 (by omega) w1).mono ?_
  rintro e w2 hN
  obtain ⟨p, mb, tp, tm, rfl, hS⟩ := sst_new K1.out hN
  have S2 := Lib.hid hS
  clear hN hS
  go_wp2_with fail
  go_loopw [5, 6] (fun v iv wr => ∃ (i nb cp : Nat) (ao : Option Addr) (td ag : Int → Int), i ≤ 4 ∧ nb ≤ i ∧ iv = .int .i64 i ∧ v = .slice ao i cp ∧ SSt w wr p mb tp tm nb 1 i (idl 1 i) td ag ∧ RowS w wr v (idl 1 i) p mb tp tm ∧ ∀ j : Nat, td (idB j) = 0) (fun _ iv _ => 4 - (intOf iv).toNat)
  case atStart => exact ⟨0, 0, 0, none, _, _, Nat.zero_le _, Nat.le_refl _, rfl, rfl, S2.out, ⟨RowP.nil, nofun⟩, fun _ => rfl⟩
  case round =>
    obtain ⟨i, nb, cp, ao, td, ag, hi, hnb, rfl, rfl, hS, hR, htd⟩ := hrel
    have HS := Lib.hid hS; have HR := Lib.hid hR; have HTD := Lib.hid htd
    clear hS hR htd
    by_cases hlt : i < 4
    · have hlt2 : (i : Int) < 4 := by omega
      have hlt3 : decide ((i : Int) < 4) = true := by simp; omega
      go_wp2_with fail
      refine (sst_open HS.out (by rw [idl_len]; omega) (by omega) (by omega)).mono ?_
      rintro e w3 ⟨rfl, h3, k3⟩
      rw [idl_succ] at h3
      have S3 := Lib.hid h3
      have R3 := Lib.hid (HR.out.keep k3)
      have HRO3 := Lib.hid (rowS_own R3.out (idl_len 1 i))
      clear h3 k3
      obtain ⟨id, hid⟩ : ∃ id, (1 : Int) * 4294967296 + ((i : Int) + 1) = id := ⟨_, rfl⟩
      rw [hid] at S3
      (try simp only [hid])
      have HID := Lib.hid hid
      clear hid
      go_wp2_with (at_builtin; refine wpList_app 45 45 2 (.int .i64 0) 1 8 Tryz.underlying45 infoL rfl (by decide) (by decide) rfl rfl rfl rfl (HRO3.out.alloc _) (src_oneK (x := id) iC_one iC_len Tryz.underlying45 (heap_new w3 _) rfl 1) (by omega) ?_)
      intro a5 c5 w5 hown hgr hfr
      have hkw : Keep (fun k => (Value.slice ao i cp).ownBlock = some k) w3 w5 := (((Keep.refl NoF w3).alloc _).mono (fun _ _ f => f.elim)).grown hgr (fun k _ e => e)
      have hlo3 : ∀ g, (Value.slice ao i cp).ownBlock = some g → w.heap.size ≤ g := R3.out.1.lo
      have HS5 : Hid (SSt w w5 p mb tp tm (nb + 1) 1 (i + 1 : Nat) (idl 1 (i + 1)) (tdUp td id 0) (agUp ag id)) := Lib.hid (S3.out.keep hkw hlo3 ⟨fun e => (R3.out.2 _ e).1 rfl, fun e => (R3.out.2 _ e).2.1 rfl, fun e => (R3.out.2 _ e).2.2.1 rfl, fun e => (R3.out.2 _ e).2.2.2 rfl⟩)
      have HR5 : Hid (RowS w w5 (.slice a5 (i + 1) c5) (idl 1 (i + 1)) p mb tp tm) := by
        have hl5 : (idl 1 (i + 1)).length = i + 1 := idl_len 1 (i + 1)
        have hlt3 := S3.out.1.lt
        have hks3 := S3.out.kp.size
        have hs3 : (w3.alloc (.cells #[.int .i64 id] 2 (0, 0))).heap.size = w3.heap.size + 1 := by simp
        refine Lib.hid ⟨⟨a5, c5, by rw [hl5], by rw [hl5, ← idl_succ, HID.out, List.flatMap_append]; exact hown, fun g hg => ?_⟩, fun g hg => ?_⟩
        · rcases hfr with f | f
          · rw [f] at hg; exact hlo3 g hg
          · rw [f] at hg; injection hg with hg; omega
        · rcases hfr with f | f
          · rw [f] at hg; exact R3.out.2 g hg
          · rw [f] at hg; injection hg with hg; omega
      have HTD5 : Hid (∀ j : Nat, tdUp td id 0 (idB j) = 0) := Lib.hid fun j => by unfold tdUp; split; rfl; exact HTD.out j
      clear hown hgr hfr hkw hlo3 HRO3
      go_wp2_with fail
      go_roundw
      case rel => exact ⟨i + 1, nb + 1, c5, a5, _, _, by omega, by omega, by go_num, rfl, HS5.out, HR5.out, HTD5.out⟩
      case measure => simp [intOf]; omega
    · have hi4 : i = 4 := by omega
      have hlt2 : ¬ (i : Int) < 4 := by omega
      have hlt3 : decide ((i : Int) < 4) = false := by simp; omega
      subst hi4
      obtain ⟨H, hH⟩ : ∃ H, wr.heap.size = H := ⟨_, rfl⟩
      have HB0 : Hid (BS w (wr.alloc (.cells #[.int .i64 0, .int .i64 0, .int .i64 0, .int .i64 0] 58 (0, 0))) p mb tp tm nb H (.slice ao 4 cp) td ag) := by
        have hk := (Keep.refl NoF wr).alloc (.cells #[.int .i64 0, .int .i64 0, .int .i64 0, .int .i64 0] 58 (0, 0))
        have hlt := HS.out.1.lt
        have hs := HS.out.kp.size
        refine Lib.hid ⟨HS.out.keepN hk, HR.out.keepN hk, ?_, ⟨by omega, by omega, by omega, by omega, by omega, fun e => by have := HR.out.1.lt H e; omega⟩⟩
        unfold HB
        rw [HTD.out, HTD.out, HTD.out, HTD.out, ← hH]
        exact heap_new wr _
      go_upto_region 14 with fail
      (try rw [hH])
      rw [show ((4 : Nat) : Int) = 4 from rfl]
      clear hlt2 hlt3 hlt hH
      obtain ⟨gr, rfl, _⟩ := row_at (rowS_own HR.out (idl_len 1 4)) (idl_len 1 4) 0 (by rw [idl_len]; omega)
      go_upto_region 15 with fail
      go_loopw [10] (fun iv wr => ∃ (i nb : Nat) (td ag : Int → Int), i ≤ min len 40 ∧ nb ≤ 4 + 2 * i ∧ iv = .int .i64 i ∧ BS w wr p mb tp tm nb H (.slice (some ⟨gr, 0, none⟩) 4 cp) td ag) (fun iv _ => 40 - (intOf iv).toNat)
      case atStart => exact ⟨0, nb, _, _, Nat.zero_le _, hnb, rfl, HB0.out⟩
      case round =>
        obtain ⟨i, nb, td, ag, hi, hnb, rfl, hB⟩ := hrel
        have HBS := Lib.hid hB
        have KP := Lib.hid hB.s.kp
        clear hB
        by_cases hlt : i < len
        · have hlt2 : (i : Int) < len := by omega
          have hlt3 : decide (i < len) = true := by simp [hlt]
          have hlt4 : decide (len ≤ i) = false := by simp; omega
          by_cases h40 : i < 40
          · have h40b : (i : Int) < 40 := by omega
            have h40c : decide ((i : Int) < 40) = true := by simp [h40b]
            obtain ⟨gl, ol, rfl, hcl, hwl⟩ := HL.out.cellAt i hlt
            have hxb := bounds_i64 hwl
            generalize l.getD i 0 = x at hcl hwl hxb
            have cx := KP.out.cell' hcl (fun f => f)
            obtain ⟨k, hk, hk4⟩ := mod4 x
            obtain ⟨t, ht, ht4⟩ := mod4 (x.tdiv 4)
            have hxk := tmod4 x
            have hxt := tmod4 (x.tdiv 4)
            clear hcl hwl
            go_upto_region 17 with fail
            go_quiet (fail)
            go_upto_region 18 with fail
            rw [hk, ht]
            refine wp_named (F := NoF) (wq := wr) ((Keep.refl NoF wr).drewN _) ?_
            intro wz hz
            have HB1 := Lib.hid (HBS.out.keepN hz)
            clear hz cx hk ht hxk hxt hxb HBS
            go_wp2_with fail
            go_loopw [13, 14] (fun tv jv wr => ∃ (j : Nat), j ≤ 4 ∧ jv = .int .i64 j ∧ tv = .bool (takB td k t j) ∧ wr = wz) (fun _ jv _ => 4 - (intOf jv).toNat)
            case atStart => exact ⟨0, Nat.zero_le _, rfl, rfl, rfl⟩
            case round =>
              obtain ⟨j, hj, rfl, rfl, hw⟩ := hrel
              subst hw
              by_cases hlt : j < 4
              · have hlt2 : (j : Int) < 4 := by omega
                have hlt3 : decide ((j : Int) < 4) = true := by simp; omega
                have hlt4 : decide (4 ≤ j) = false := by simp; omega
                have ch := HB1.out.h.cell hlt
                have hnx := takB_succ td k t j
                obtain ⟨hv, hhv⟩ : ∃ hv, td (idB j) = hv := ⟨_, rfl⟩
                rw [hhv] at ch hnx
                obtain ⟨b, hb⟩ : ∃ b, takB td k t j = b := ⟨_, rfl⟩
                rw [hb] at hnx ⊢
                have HNX := Lib.hid hnx
                clear hnx hhv hb
                cases b
                · by_cases hjk : j = k
                  · subst hjk
                    go_wp2_with fail
                    go_roundw
                    case rel => exact ⟨j + 1, by omega, by go_num, by rw [HNX.out]; simp, trivial⟩
                    case measure => simp [intOf]; omega
                  · have hjk2 : ((j : Int) != (k : Int)) = true := by simp; omega
                    have HJK := Lib.hid hjk
                    by_cases ht0 : t = 0
                    · subst ht0
                      go_wp2_with fail
                      go_roundw
                      case rel => exact ⟨j + 1, by omega, by go_num, by rw [HNX.out]; simp, trivial⟩
                      case measure => simp [intOf]; omega
                    · have ht1 : ((t : Int) != 0) = true := by simp; omega
                      have HT0 := Lib.hid ht0
                      clear hjk ht0
                      by_cases hev : hv = t
                      · subst hev
                        go_wp2_with fail
                        go_roundw
                        case rel => exact ⟨j + 1, by omega, by go_num, by rw [HNX.out]; simp [HJK.out, HT0.out], trivial⟩
                        case measure => simp [intOf]; omega
                      · have hev1 : (hv == (t : Int)) = false := by simp [hev]
                        have hev2 : decide (hv = (t : Int)) = false := by simp [hev]
                        have HEV := Lib.hid hev
                        clear hev
                        go_wp2_with fail
                        go_roundw
                        case rel => exact ⟨j + 1, by omega, by go_num, by rw [HNX.out]; simp [HEV.out], trivial⟩
                        case measure => simp [intOf]; omega
                · go_wp2_with fail
                  go_roundw
                  case rel => exact ⟨j + 1, by omega, by go_num, by rw [HNX.out]; simp, trivial⟩
                  case measure => simp [intOf]; omega
              · have hlt2 : ¬ (j : Int) < 4 := by omega
                have hlt3 : decide ((j : Int) < 4) = false := by simp; omega
                obtain rfl : j = 4 := by omega
                have hkb : (k : Int) < 4 := by omega
                have hkb2 : decide (4 ≤ k) = false := by simp; omega
                obtain ⟨gr2, e, cr⟩ := row_at (rowS_own HB1.out.r (idl_len 1 4)) (idl_len 1 4) k (by rw [idl_len]; exact hk4)
                cases e
                rw [idl_get] at cr
                clear hlt
                have hbk := idB_ki hk4
                have hti : KI (t : Int) := ki_small (by omega)
                by_cases htk : takB td k t 4 = true
                · have HUB := Lib.hid (sst_unbound HB1.out.s (idB k) t hbk (.inl (takB_iff.1 htk)))
                  obtain ⟨x8, hx8⟩ : ∃ x8, idB k = x8 := ⟨_, rfl⟩
                  rw [hx8] at cr HUB
                  rw [htk]
                  clear htk hx8 hbk hti
                  go_wp2_with fail
                  refine HUB.out.mono ?_
                  rintro e w6 ⟨rfl, _, hk6⟩
                  have HB6 := Lib.hid (HB1.out.keepN hk6)
                  clear hk6 cr
                  go_wp2_with fail
                  go_loopw [15] (fun jv wr => ∃ (j : Nat), j ≤ 4 ∧ jv = .int .i64 j ∧ BS w wr p mb tp tm nb H (.slice (some ⟨gr, 0, none⟩) 4 cp) td ag) (fun jv _ => 4 - (intOf jv).toNat)
                  case atStart => exact ⟨0, Nat.zero_le _, rfl, HB6.out⟩
                  case round =>
                    obtain ⟨j, hj, rfl, hB⟩ := hrel
                    have HB9 := Lib.hid hB
                    clear hB
                    by_cases hlt : j < 4
                    · have hlt2 : (j : Int) < 4 := by omega
                      have hlt3 : decide ((j : Int) < 4) = true := by simp; omega
                      have hlt4 : decide (4 ≤ j) = false := by simp; omega
                      obtain ⟨gr2, e, cr⟩ := row_at (rowS_own HB9.out.r (idl_len 1 4)) (idl_len 1 4) j (by rw [idl_len]; exact hlt)
                      cases e
                      rw [idl_get] at cr
                      have ch := HB9.out.h.cell hlt
                      have htid : ∀ W, Keep NoF wr W → Calls Tryz.prog 32 #[.pointer (some ⟨p, 0, none⟩), .int .i64 (idB j)] W fun e w' => e = .returned (.int .i64 (td (idB j))) ∧ w' = W := fun W hW => by
                        have h := stid_any (HB9.out.keepN hW).s.1 (idB j) (idB_ki hlt)
                        rw [if_pos (idB_in hlt)] at h
                        exact h
                      have hof : ∀ W, Keep NoF wr W → td (idB j) ≠ 0 → Calls Tryz.prog 33 #[.pointer (some ⟨p, 0, none⟩), .int .i64 (td (idB j))] W fun e w' => e = .returned (.int .i64 (idB j)) ∧ Keep NoF W w' := fun W hW h0 => by
                        refine (sof_tot (HB9.out.keepN hW).s.1 (td (idB j))).mono ?_
                        rintro e w' ⟨r, rfl, hr, hk⟩
                        rcases hr with ⟨_, h1, h2⟩ | ⟨_, h1 | h1⟩
                        · rw [HB9.out.s.1.uq r h1 (idB j) (idB_in hlt) h2 (by rw [h2]; exact h0)]; exact ⟨rfl, hk⟩
                        · exact absurd h1 h0
                        · exact absurd rfl (h1 (idB j) (idB_in hlt))
                      generalize td (idB j) = hv at ch htid hof
                      generalize idB j = x9 at cr htid hof
                      have HTID := Lib.hid htid; have HOF := Lib.hid hof
                      have K0 := Lib.hid ((Keep.refl NoF wr).drew)
                      clear htid hof
                      go_upto_region 30 with fail
                      by_cases hv0 : hv = 0
                      · subst hv0
                        refine wp_region_noPanic ?_
                        refine wp_region_held_drew (S := (fun W : World => W.cell? ⟨gr, j, none⟩ = some (.int .i64 x9) ∧ W.cell? ⟨H, j, none⟩ = some (.int .i64 0))) (by kernel_rfl) (⟨cr, ch⟩) (fun hHeld => ?_)
                        refine wpAnyH_take (i := 0) (oi := ?oAz0) (v := ?vAz0) ?hiAz0 (by kernel_rfl) (by kernel_rfl) (by kernel_rfl) (fun _ _ _ h => h) (Or.inl ⟨?wAz0, ?yAz0⟩) (by assumption) ?rAz0
                        case hiAz0 => (simp only [List.getElem?_toArray, List.getElem?_cons_zero]; try rfl)
                        case wAz0 => rfl
                        case yAz0 => (intro w hSw; (try dsimp only at hSw); go_simp; (try with_reducible rfl))
                        (try simp only [Act.put, List.setIfInBounds_toArray, List.set_cons_zero, List.set_cons_succ])
                        refine wpAnyH_take (i := 1) (oi := ?oAz1) (v := ?vAz1) ?hiAz1 (by kernel_rfl) (by kernel_rfl) (by kernel_rfl) (fun _ _ _ h => h) (Or.inl ⟨?wAz1, ?yAz1⟩) (by assumption) ?rAz1
                        case hiAz1 => (simp only [List.getElem?_toArray, List.getElem?_cons_succ, List.getElem?_cons_zero]; try rfl)
                        case wAz1 => rfl
                        case yAz1 => (intro w hSw; (try dsimp only at hSw); go_simp; (try with_reducible rfl))
                        (try simp only [Act.put, List.setIfInBounds_toArray, List.set_cons_zero, List.set_cons_succ])
                        refine wpAnyH_take (i := 2) (oi := ?oAz2) (v := ?vAz2) ?hiAz2 (by kernel_rfl) (by kernel_rfl) (by kernel_rfl) (fun _ _ _ h => h) (Or.inl ⟨?wAz2, ?yAz2⟩) (by assumption) ?rAz2
                        case hiAz2 => (simp only [List.getElem?_toArray, List.getElem?_cons_succ, List.getElem?_cons_zero]; try rfl)
                        case wAz2 => rfl
                        case yAz2 => (intro w hSw; (try dsimp only at hSw); go_simp; (try with_reducible rfl))
                        (try simp only [Act.put, List.setIfInBounds_toArray, List.set_cons_zero, List.set_cons_succ])
                        refine wpAnyH_take (i := 3) (oi := ?oAz3) (v := ?vAz3) ?hiAz3 (by kernel_rfl) (by kernel_rfl) (by kernel_rfl) (fun _ _ _ h => h) (Or.inl ⟨?wAz3, ?yAz3⟩) (by assumption) ?rAz3
                        case hiAz3 => (simp only [List.getElem?_toArray, List.getElem?_cons_succ, List.getElem?_cons_zero]; try rfl)
                        case wAz3 => rfl
                        case yAz3 => (intro w hSw; (try dsimp only at hSw); go_simp; (try with_reducible rfl))
                        (try simp only [Act.put, List.setIfInBounds_toArray, List.set_cons_zero, List.set_cons_succ])
                        refine wpAnyH_take (i := 4) (oi := ?oAz4) (v := ?vAz4) ?hiAz4 (by kernel_rfl) (by kernel_rfl) (by kernel_rfl) (fun _ _ _ h => h) (Or.inl ⟨?wAz4, ?yAz4⟩) (by assumption) ?rAz4
                        case hiAz4 => (simp only [List.getElem?_toArray, List.getElem?_cons_succ, List.getElem?_cons_zero]; try rfl)
                        case wAz4 => rfl
                        case yAz4 => (intro w hSw; (try dsimp only at hSw); go_simp; (try with_reducible rfl))
                        (try simp only [Act.put, List.setIfInBounds_toArray, List.set_cons_zero, List.set_cons_succ])
                        refine wpAnyH_take (i := 6) (oi := ?oAz6) (v := ?vAz6) ?hiAz6 (by kernel_rfl) (by kernel_rfl) (by kernel_rfl) (fun _ _ _ h => h) (Or.inl ⟨?wAz6, ?yAz6⟩) (by assumption) ?rAz6
                        case hiAz6 => (simp only [List.getElem?_toArray, List.getElem?_cons_succ, List.getElem?_cons_zero]; try rfl)
                        case wAz6 => rfl
                        case yAz6 => (intro w hSw; (try dsimp only at hSw); go_simp; (try with_reducible rfl))
                        (try simp only [Act.put, List.setIfInBounds_toArray, List.set_cons_zero, List.set_cons_succ])
                        refine wpAnyH_take (i := 7) (oi := ?oAz7) (v := ?vAz7) ?hiAz7 (by kernel_rfl) (by kernel_rfl) (by kernel_rfl) (fun _ _ _ h => h) (Or.inl ⟨?wAz7, ?yAz7⟩) (by assumption) ?rAz7
                        case hiAz7 => (simp only [List.getElem?_toArray, List.getElem?_cons_succ, List.getElem?_cons_zero]; try rfl)
                        case wAz7 => rfl
                        case yAz7 => (intro w hSw; (try dsimp only at hSw); go_simp; (try with_reducible rfl))
                        (try simp only [Act.put, List.setIfInBounds_toArray, List.set_cons_zero, List.set_cons_succ])
                        refine wpAnyH_take (i := 8) (oi := ?oAz8) (v := ?vAz8) ?hiAz8 (by kernel_rfl) (by kernel_rfl) (by kernel_rfl) (fun _ _ _ h => h) (Or.inl ⟨?wAz8, ?yAz8⟩) (by assumption) ?rAz8
                        case hiAz8 => (simp only [List.getElem?_toArray, List.getElem?_cons_succ, List.getElem?_cons_zero]; try rfl)
                        case wAz8 => rfl
                        case yAz8 => (intro w hSw; (try dsimp only at hSw); go_simp; (try with_reducible rfl))
                        (try simp only [Act.put, List.setIfInBounds_toArray, List.set_cons_zero, List.set_cons_succ])
                        refine wpAnyH_ready (rs := [5]) (by kernel_rfl) (by simp) ?_
                        refine AllReadyH.cons (o := ?oAz5) ?hiAz5 (fun K hK => ?_) AllReadyH.nil
                        case hiAz5 => (simp only [List.getElem?_toArray, List.getElem?_cons_succ, List.getElem?_cons_zero]; try rfl)
                        go_simp
                        refine (HTID.out _ K0.out).mono ?_; rintro e w' ⟨rfl, rfl⟩
                        go_wp2_with fail
                        refine hK.out _ _ (⟨cr, ch⟩) (fun hHeld => ?_)
                        clear hK K
                        (try simp only [Act.put, List.setIfInBounds_toArray, List.set_cons_zero, List.set_cons_succ])
                        refine wpAnyH_take (i := 9) (oi := ?oAz9) (v := ?vAz9) ?hiAz9 (by kernel_rfl) (by kernel_rfl) (by kernel_rfl) (fun _ _ _ h => h) (Or.inl ⟨?wAz9, ?yAz9⟩) (by assumption) ?rAz9
                        case hiAz9 => (simp only [List.getElem?_toArray, List.getElem?_cons_succ, List.getElem?_cons_zero]; try rfl)
                        case wAz9 => rfl
                        case yAz9 => (intro w hSw; (try dsimp only at hSw); go_simp; (try with_reducible rfl))
                        (try simp only [Act.put, List.setIfInBounds_toArray, List.set_cons_zero, List.set_cons_succ])
                        refine wpAnyH_take (i := 10) (oi := ?oAz10) (v := ?vAz10) ?hiAz10 (by kernel_rfl) (by kernel_rfl) (by kernel_rfl) (fun _ _ _ h => h) (Or.inl ⟨?wAz10, ?yAz10⟩) (by assumption) ?rAz10
                        case hiAz10 => (simp only [List.getElem?_toArray, List.getElem?_cons_succ, List.getElem?_cons_zero]; try rfl)
                        case wAz10 => rfl
                        case yAz10 => (intro w hSw; (try dsimp only at hSw); go_simp; (try with_reducible rfl))
                        (try simp only [Act.put, List.setIfInBounds_toArray, List.set_cons_zero, List.set_cons_succ])
                        refine wpAnyH_take (i := 11) (oi := ?oAz11) (v := ?vAz11) ?hiAz11 (by kernel_rfl) (by kernel_rfl) (by kernel_rfl) (fun _ _ _ h => h) (Or.inl ⟨?wAz11, ?yAz11⟩) (by assumption) ?rAz11
                        case hiAz11 => (simp only [List.getElem?_toArray, List.getElem?_cons_succ, List.getElem?_cons_zero]; try rfl)
                        case wAz11 => rfl
                        case yAz11 => (intro w hSw; (try dsimp only at hSw); go_simp; (try with_reducible rfl))
                        (try simp only [Act.put, List.setIfInBounds_toArray, List.set_cons_zero, List.set_cons_succ])
                        refine wpAnyH_take (i := 12) (oi := ?oAz12) (v := ?vAz12) ?hiAz12 (by kernel_rfl) (by kernel_rfl) (by kernel_rfl) (fun _ _ _ h => h) (Or.inl ⟨?wAz12, ?yAz12⟩) (by assumption) ?rAz12
                        case hiAz12 => (simp only [List.getElem?_toArray, List.getElem?_cons_succ, List.getElem?_cons_zero]; try rfl)
                        case wAz12 => rfl
                        case yAz12 => (intro w hSw; (try dsimp only at hSw); go_simp; (try with_reducible rfl))
                        (try simp only [Act.put, List.setIfInBounds_toArray, List.set_cons_zero, List.set_cons_succ])
                        refine wpAnyH_take (i := 13) (oi := ?oAz13) (v := ?vAz13) ?hiAz13 (by kernel_rfl) (by kernel_rfl) (by kernel_rfl) (fun _ _ _ h => h) (Or.inl ⟨?wAz13, ?yAz13⟩) (by assumption) ?rAz13
                        case hiAz13 => (simp only [List.getElem?_toArray, List.getElem?_cons_succ, List.getElem?_cons_zero]; try rfl)
                        case wAz13 => rfl
                        case yAz13 => (intro w hSw; (try dsimp only at hSw); go_simp; (try with_reducible rfl))
                        (try simp only [Act.put, List.setIfInBounds_toArray, List.set_cons_zero, List.set_cons_succ])
                        refine wpAnyH_take (i := 14) (oi := ?oAz14) (v := ?vAz14) ?hiAz14 (by kernel_rfl) (by kernel_rfl) (by kernel_rfl) (fun _ _ _ h => h) (Or.inl ⟨?wAz14, ?yAz14⟩) (by assumption) ?rAz14
                        case hiAz14 => (simp only [List.getElem?_toArray, List.getElem?_cons_succ, List.getElem?_cons_zero]; try rfl)
                        case wAz14 => rfl
                        case yAz14 => (intro w hSw; (try dsimp only at hSw); go_simp; (try with_reducible rfl))
                        (try simp only [Act.put, List.setIfInBounds_toArray, List.set_cons_zero, List.set_cons_succ])
                        refine wpAnyH_take (i := 15) (oi := ?oAz15) (v := ?vAz15) ?hiAz15 (by kernel_rfl) (by kernel_rfl) (by kernel_rfl) (fun _ _ _ h => h) (Or.inl ⟨?wAz15, ?yAz15⟩) (by assumption) ?rAz15
                        case hiAz15 => (simp only [List.getElem?_toArray, List.getElem?_cons_succ, List.getElem?_cons_zero]; try rfl)
                        case wAz15 => rfl
                        case yAz15 => (intro w hSw; (try dsimp only at hSw); go_simp; (try with_reducible rfl))
                        (try simp only [Act.put, List.setIfInBounds_toArray, List.set_cons_zero, List.set_cons_succ])
                        refine wpAnyH_take (i := 16) (oi := ?oAz16) (v := undef) ?hiAz16 (by kernel_rfl) (by kernel_rfl) (by kernel_rfl) (fun _ _ _ h => h) (Or.inr ⟨?wAz16, rfl⟩) (by assumption) ?rAz16
                        case hiAz16 => (simp only [List.getElem?_toArray, List.getElem?_cons_succ, List.getElem?_cons_zero]; try rfl)
                        case wAz16 => rfl
                        (try simp only [Act.put, List.setIfInBounds_toArray, List.set_cons_zero, List.set_cons_succ])
                        refine wpAnyH_take (i := 17) (oi := ?oAz17) (v := undef) ?hiAz17 (by kernel_rfl) (by kernel_rfl) (by kernel_rfl) (fun _ _ _ h => h) (Or.inr ⟨?wAz17, rfl⟩) (by assumption) ?rAz17
                        case hiAz17 => (simp only [List.getElem?_toArray, List.getElem?_cons_succ, List.getElem?_cons_zero]; try rfl)
                        case wAz17 => rfl
                        (try simp only [Act.put, List.setIfInBounds_toArray, List.set_cons_zero, List.set_cons_succ])
                        refine wpAnyH_take (i := 18) (oi := ?oAz18) (v := undef) ?hiAz18 (by kernel_rfl) (by kernel_rfl) (by kernel_rfl) (fun _ _ _ h => h) (Or.inr ⟨?wAz18, rfl⟩) (by assumption) ?rAz18
                        case hiAz18 => (simp only [List.getElem?_toArray, List.getElem?_cons_succ, List.getElem?_cons_zero]; try rfl)
                        case wAz18 => rfl
                        (try simp only [Act.put, List.setIfInBounds_toArray, List.set_cons_zero, List.set_cons_succ])
                        refine wpAnyH_take (i := 19) (oi := ?oAz19) (v := undef) ?hiAz19 (by kernel_rfl) (by kernel_rfl) (by kernel_rfl) (fun _ _ _ h => h) (Or.inr ⟨?wAz19, rfl⟩) (by assumption) ?rAz19
                        case hiAz19 => (simp only [List.getElem?_toArray, List.getElem?_cons_succ, List.getElem?_cons_zero]; try rfl)
                        case wAz19 => rfl
                        (try simp only [Act.put, List.setIfInBounds_toArray, List.set_cons_zero, List.set_cons_succ])
                        refine wpAnyH_take (i := 20) (oi := ?oAz20) (v := undef) ?hiAz20 (by kernel_rfl) (by kernel_rfl) (by kernel_rfl) (fun _ _ _ h => h) (Or.inr ⟨?wAz20, rfl⟩) (by assumption) ?rAz20
                        case hiAz20 => (simp only [List.getElem?_toArray, List.getElem?_cons_succ, List.getElem?_cons_zero]; try rfl)
                        case wAz20 => rfl
                        (try simp only [Act.put, List.setIfInBounds_toArray, List.set_cons_zero, List.set_cons_succ])
                        refine wpAnyH_take (i := 21) (oi := ?oAz21) (v := undef) ?hiAz21 (by kernel_rfl) (by kernel_rfl) (by kernel_rfl) (fun _ _ _ h => h) (Or.inr ⟨?wAz21, rfl⟩) (by assumption) ?rAz21
                        case hiAz21 => (simp only [List.getElem?_toArray, List.getElem?_cons_succ, List.getElem?_cons_zero]; try rfl)
                        case wAz21 => rfl
                        (try simp only [Act.put, List.setIfInBounds_toArray, List.set_cons_zero, List.set_cons_succ])
                        refine wpAnyH_take (i := 22) (oi := ?oAz22) (v := undef) ?hiAz22 (by kernel_rfl) (by kernel_rfl) (by kernel_rfl) (fun _ _ _ h => h) (Or.inr ⟨?wAz22, rfl⟩) (by assumption) ?rAz22
                        case hiAz22 => (simp only [List.getElem?_toArray, List.getElem?_cons_succ, List.getElem?_cons_zero]; try rfl)
                        case wAz22 => rfl
                        (try simp only [Act.put, List.setIfInBounds_toArray, List.set_cons_zero, List.set_cons_succ])
                        refine wpAnyH_take (i := 23) (oi := ?oAz23) (v := undef) ?hiAz23 (by kernel_rfl) (by kernel_rfl) (by kernel_rfl) (fun _ _ _ h => h) (Or.inr ⟨?wAz23, rfl⟩) (by assumption) ?rAz23
                        case hiAz23 => (simp only [List.getElem?_toArray, List.getElem?_cons_succ, List.getElem?_cons_zero]; try rfl)
                        case wAz23 => rfl
                        (try simp only [Act.put, List.setIfInBounds_toArray, List.set_cons_zero, List.set_cons_succ])
                        refine wpAnyH_take (i := 24) (oi := ?oAz24) (v := undef) ?hiAz24 (by kernel_rfl) (by kernel_rfl) (by kernel_rfl) (fun _ _ _ h => h) (Or.inr ⟨?wAz24, rfl⟩) (by assumption) ?rAz24
                        case hiAz24 => (simp only [List.getElem?_toArray, List.getElem?_cons_succ, List.getElem?_cons_zero]; try rfl)
                        case wAz24 => rfl
                        (try simp only [Act.put, List.setIfInBounds_toArray, List.set_cons_zero, List.set_cons_succ])
                        refine wpAnyH_take (i := 25) (oi := ?oAz25) (v := undef) ?hiAz25 (by kernel_rfl) (by kernel_rfl) (by kernel_rfl) (fun _ _ _ h => h) (Or.inr ⟨?wAz25, rfl⟩) (by assumption) ?rAz25
                        case hiAz25 => (simp only [List.getElem?_toArray, List.getElem?_cons_succ, List.getElem?_cons_zero]; try rfl)
                        case wAz25 => rfl
                        (try simp only [Act.put, List.setIfInBounds_toArray, List.set_cons_zero, List.set_cons_succ])
                        refine wpAnyH_take (i := 26) (oi := ?oAz26) (v := ?vAz26) ?hiAz26 (by kernel_rfl) (by kernel_rfl) (by kernel_rfl) (fun _ _ _ h => h) (Or.inl ⟨?wAz26, ?yAz26⟩) (by assumption) ?rAz26
                        case hiAz26 => (simp only [List.getElem?_toArray, List.getElem?_cons_succ, List.getElem?_cons_zero]; try rfl)
                        case wAz26 => rfl
                        case yAz26 => (intro w hSw; (try dsimp only at hSw); go_simp; (try with_reducible rfl))
                        (try simp only [Act.put, List.setIfInBounds_toArray, List.set_cons_zero, List.set_cons_succ])
                        refine wpAnyH_take (i := 27) (oi := ?oAz27) (v := ?vAz27) ?hiAz27 (by kernel_rfl) (by kernel_rfl) (by kernel_rfl) (fun _ _ _ h => h) (Or.inl ⟨?wAz27, ?yAz27⟩) (by assumption) ?rAz27
                        case hiAz27 => (simp only [List.getElem?_toArray, List.getElem?_cons_succ, List.getElem?_cons_zero]; try rfl)
                        case wAz27 => rfl
                        case yAz27 => (intro w hSw; (try dsimp only at hSw); go_simp; (try with_reducible rfl))
                        (try simp only [Act.put, List.setIfInBounds_toArray, List.set_cons_zero, List.set_cons_succ])
                        refine wpAnyH_done (by kernel_rfl) ?_ _
                        refine NoPanic.normal ?_
                        have HB10 := Lib.hid (HB9.out.keepN K0.out)
                        go_wp2_with fail
                        go_roundw
                        case rel => exact ⟨j + 1, by omega, by go_num, HB10.out⟩
                        case measure => simp [intOf]; omega
                      · have hv1 : (hv != 0) = true := by simp [hv0]
                        refine wp_region_noPanic ?_
                        refine wp_region_held_drew (S := (fun W : World => W.cell? ⟨gr, j, none⟩ = some (.int .i64 x9) ∧ W.cell? ⟨H, j, none⟩ = some (.int .i64 hv))) (by kernel_rfl) (⟨cr, ch⟩) (fun hHeld => ?_)
                        refine wpAnyH_take (i := 0) (oi := ?oAn0) (v := ?vAn0) ?hiAn0 (by kernel_rfl) (by kernel_rfl) (by kernel_rfl) (fun _ _ _ h => h) (Or.inl ⟨?wAn0, ?yAn0⟩) (by assumption) ?rAn0
                        case hiAn0 => (simp only [List.getElem?_toArray, List.getElem?_cons_zero]; try rfl)
                        case wAn0 => rfl
                        case yAn0 => (intro w hSw; (try dsimp only at hSw); go_simp; (try with_reducible rfl))
                        (try simp only [Act.put, List.setIfInBounds_toArray, List.set_cons_zero, List.set_cons_succ])
                        refine wpAnyH_take (i := 1) (oi := ?oAn1) (v := ?vAn1) ?hiAn1 (by kernel_rfl) (by kernel_rfl) (by kernel_rfl) (fun _ _ _ h => h) (Or.inl ⟨?wAn1, ?yAn1⟩) (by assumption) ?rAn1
                        case hiAn1 => (simp only [List.getElem?_toArray, List.getElem?_cons_succ, List.getElem?_cons_zero]; try rfl)
                        case wAn1 => rfl
                        case yAn1 => (intro w hSw; (try dsimp only at hSw); go_simp; (try with_reducible rfl))
                        (try simp only [Act.put, List.setIfInBounds_toArray, List.set_cons_zero, List.set_cons_succ])
                        refine wpAnyH_take (i := 2) (oi := ?oAn2) (v := ?vAn2) ?hiAn2 (by kernel_rfl) (by kernel_rfl) (by kernel_rfl) (fun _ _ _ h => h) (Or.inl ⟨?wAn2, ?yAn2⟩) (by assumption) ?rAn2
                        case hiAn2 => (simp only [List.getElem?_toArray, List.getElem?_cons_succ, List.getElem?_cons_zero]; try rfl)
                        case wAn2 => rfl
                        case yAn2 => (intro w hSw; (try dsimp only at hSw); go_simp; (try with_reducible rfl))
                        (try simp only [Act.put, List.setIfInBounds_toArray, List.set_cons_zero, List.set_cons_succ])
                        refine wpAnyH_take (i := 3) (oi := ?oAn3) (v := ?vAn3) ?hiAn3 (by kernel_rfl) (by kernel_rfl) (by kernel_rfl) (fun _ _ _ h => h) (Or.inl ⟨?wAn3, ?yAn3⟩) (by assumption) ?rAn3
                        case hiAn3 => (simp only [List.getElem?_toArray, List.getElem?_cons_succ, List.getElem?_cons_zero]; try rfl)
                        case wAn3 => rfl
                        case yAn3 => (intro w hSw; (try dsimp only at hSw); go_simp; (try with_reducible rfl))
                        (try simp only [Act.put, List.setIfInBounds_toArray, List.set_cons_zero, List.set_cons_succ])
                        refine wpAnyH_take (i := 4) (oi := ?oAn4) (v := ?vAn4) ?hiAn4 (by kernel_rfl) (by kernel_rfl) (by kernel_rfl) (fun _ _ _ h => h) (Or.inl ⟨?wAn4, ?yAn4⟩) (by assumption) ?rAn4
                        case hiAn4 => (simp only [List.getElem?_toArray, List.getElem?_cons_succ, List.getElem?_cons_zero]; try rfl)
                        case wAn4 => rfl
                        case yAn4 => (intro w hSw; (try dsimp only at hSw); go_simp; (try with_reducible rfl))
                        (try simp only [Act.put, List.setIfInBounds_toArray, List.set_cons_zero, List.set_cons_succ])
                        refine wpAnyH_take (i := 6) (oi := ?oAn6) (v := ?vAn6) ?hiAn6 (by kernel_rfl) (by kernel_rfl) (by kernel_rfl) (fun _ _ _ h => h) (Or.inl ⟨?wAn6, ?yAn6⟩) (by assumption) ?rAn6
                        case hiAn6 => (simp only [List.getElem?_toArray, List.getElem?_cons_succ, List.getElem?_cons_zero]; try rfl)
                        case wAn6 => rfl
                        case yAn6 => (intro w hSw; (try dsimp only at hSw); go_simp; (try with_reducible rfl))
                        (try simp only [Act.put, List.setIfInBounds_toArray, List.set_cons_zero, List.set_cons_succ])
                        refine wpAnyH_take (i := 7) (oi := ?oAn7) (v := ?vAn7) ?hiAn7 (by kernel_rfl) (by kernel_rfl) (by kernel_rfl) (fun _ _ _ h => h) (Or.inl ⟨?wAn7, ?yAn7⟩) (by assumption) ?rAn7
                        case hiAn7 => (simp only [List.getElem?_toArray, List.getElem?_cons_succ, List.getElem?_cons_zero]; try rfl)
                        case wAn7 => rfl
                        case yAn7 => (intro w hSw; (try dsimp only at hSw); go_simp; (try with_reducible rfl))
                        (try simp only [Act.put, List.setIfInBounds_toArray, List.set_cons_zero, List.set_cons_succ])
                        refine wpAnyH_take (i := 8) (oi := ?oAn8) (v := ?vAn8) ?hiAn8 (by kernel_rfl) (by kernel_rfl) (by kernel_rfl) (fun _ _ _ h => h) (Or.inl ⟨?wAn8, ?yAn8⟩) (by assumption) ?rAn8
                        case hiAn8 => (simp only [List.getElem?_toArray, List.getElem?_cons_succ, List.getElem?_cons_zero]; try rfl)
                        case wAn8 => rfl
                        case yAn8 => (intro w hSw; (try dsimp only at hSw); go_simp; (try with_reducible rfl))
                        (try simp only [Act.put, List.setIfInBounds_toArray, List.set_cons_zero, List.set_cons_succ])
                        refine wpAnyH_ready (rs := [5]) (by kernel_rfl) (by simp) ?_
                        refine AllReadyH.cons (o := ?oAn5) ?hiAn5 (fun K hK => ?_) AllReadyH.nil
                        case hiAn5 => (simp only [List.getElem?_toArray, List.getElem?_cons_succ, List.getElem?_cons_zero]; try rfl)
                        go_simp
                        refine (HTID.out _ K0.out).mono ?_; rintro e w' ⟨rfl, rfl⟩
                        go_wp2_with fail
                        refine hK.out _ _ (⟨cr, ch⟩) (fun hHeld => ?_)
                        clear hK K
                        (try simp only [Act.put, List.setIfInBounds_toArray, List.set_cons_zero, List.set_cons_succ])
                        refine wpAnyH_take (i := 9) (oi := ?oAn9) (v := ?vAn9) ?hiAn9 (by kernel_rfl) (by kernel_rfl) (by kernel_rfl) (fun _ _ _ h => h) (Or.inl ⟨?wAn9, ?yAn9⟩) (by assumption) ?rAn9
                        case hiAn9 => (simp only [List.getElem?_toArray, List.getElem?_cons_succ, List.getElem?_cons_zero]; try rfl)
                        case wAn9 => rfl
                        case yAn9 => (intro w hSw; (try dsimp only at hSw); go_simp; (try with_reducible rfl))
                        (try simp only [Act.put, List.setIfInBounds_toArray, List.set_cons_zero, List.set_cons_succ])
                        refine wpAnyH_take (i := 10) (oi := ?oAn10) (v := ?vAn10) ?hiAn10 (by kernel_rfl) (by kernel_rfl) (by kernel_rfl) (fun _ _ _ h => h) (Or.inl ⟨?wAn10, ?yAn10⟩) (by assumption) ?rAn10
                        case hiAn10 => (simp only [List.getElem?_toArray, List.getElem?_cons_succ, List.getElem?_cons_zero]; try rfl)
                        case wAn10 => rfl
                        case yAn10 => (intro w hSw; (try dsimp only at hSw); go_simp; (try with_reducible rfl))
                        (try simp only [Act.put, List.setIfInBounds_toArray, List.set_cons_zero, List.set_cons_succ])
                        refine wpAnyH_take (i := 11) (oi := ?oAn11) (v := ?vAn11) ?hiAn11 (by kernel_rfl) (by kernel_rfl) (by kernel_rfl) (fun _ _ _ h => h) (Or.inl ⟨?wAn11, ?yAn11⟩) (by assumption) ?rAn11
                        case hiAn11 => (simp only [List.getElem?_toArray, List.getElem?_cons_succ, List.getElem?_cons_zero]; try rfl)
                        case wAn11 => rfl
                        case yAn11 => (intro w hSw; (try dsimp only at hSw); go_simp; (try with_reducible rfl))
                        (try simp only [Act.put, List.setIfInBounds_toArray, List.set_cons_zero, List.set_cons_succ])
                        refine wpAnyH_take (i := 12) (oi := ?oAn12) (v := ?vAn12) ?hiAn12 (by kernel_rfl) (by kernel_rfl) (by kernel_rfl) (fun _ _ _ h => h) (Or.inl ⟨?wAn12, ?yAn12⟩) (by assumption) ?rAn12
                        case hiAn12 => (simp only [List.getElem?_toArray, List.getElem?_cons_succ, List.getElem?_cons_zero]; try rfl)
                        case wAn12 => rfl
                        case yAn12 => (intro w hSw; (try dsimp only at hSw); go_simp; (try with_reducible rfl))
                        (try simp only [Act.put, List.setIfInBounds_toArray, List.set_cons_zero, List.set_cons_succ])
                        refine wpAnyH_take (i := 13) (oi := ?oAn13) (v := ?vAn13) ?hiAn13 (by kernel_rfl) (by kernel_rfl) (by kernel_rfl) (fun _ _ _ h => h) (Or.inl ⟨?wAn13, ?yAn13⟩) (by assumption) ?rAn13
                        case hiAn13 => (simp only [List.getElem?_toArray, List.getElem?_cons_succ, List.getElem?_cons_zero]; try rfl)
                        case wAn13 => rfl
                        case yAn13 => (intro w hSw; (try dsimp only at hSw); go_simp; (try with_reducible rfl))
                        (try simp only [Act.put, List.setIfInBounds_toArray, List.set_cons_zero, List.set_cons_succ])
                        refine wpAnyH_take (i := 14) (oi := ?oAn14) (v := ?vAn14) ?hiAn14 (by kernel_rfl) (by kernel_rfl) (by kernel_rfl) (fun _ _ _ h => h) (Or.inl ⟨?wAn14, ?yAn14⟩) (by assumption) ?rAn14
                        case hiAn14 => (simp only [List.getElem?_toArray, List.getElem?_cons_succ, List.getElem?_cons_zero]; try rfl)
                        case wAn14 => rfl
                        case yAn14 => (intro w hSw; (try dsimp only at hSw); go_simp; (try with_reducible rfl))
                        (try simp only [Act.put, List.setIfInBounds_toArray, List.set_cons_zero, List.set_cons_succ])
                        refine wpAnyH_take (i := 15) (oi := ?oAn15) (v := ?vAn15) ?hiAn15 (by kernel_rfl) (by kernel_rfl) (by kernel_rfl) (fun _ _ _ h => h) (Or.inl ⟨?wAn15, ?yAn15⟩) (by assumption) ?rAn15
                        case hiAn15 => (simp only [List.getElem?_toArray, List.getElem?_cons_succ, List.getElem?_cons_zero]; try rfl)
                        case wAn15 => rfl
                        case yAn15 => (intro w hSw; (try dsimp only at hSw); go_simp; (try with_reducible rfl))
                        (try simp only [Act.put, List.setIfInBounds_toArray, List.set_cons_zero, List.set_cons_succ])
                        refine wpAnyH_take (i := 16) (oi := ?oAn16) (v := ?vAn16) ?hiAn16 (by kernel_rfl) (by kernel_rfl) (by kernel_rfl) (fun _ _ _ h => h) (Or.inl ⟨?wAn16, ?yAn16⟩) (by assumption) ?rAn16
                        case hiAn16 => (simp only [List.getElem?_toArray, List.getElem?_cons_succ, List.getElem?_cons_zero]; try rfl)
                        case wAn16 => rfl
                        case yAn16 => (intro w hSw; (try dsimp only at hSw); go_simp; (try with_reducible rfl))
                        (try simp only [Act.put, List.setIfInBounds_toArray, List.set_cons_zero, List.set_cons_succ])
                        refine wpAnyH_take (i := 17) (oi := ?oAn17) (v := ?vAn17) ?hiAn17 (by kernel_rfl) (by kernel_rfl) (by kernel_rfl) (fun _ _ _ h => h) (Or.inl ⟨?wAn17, ?yAn17⟩) (by assumption) ?rAn17
                        case hiAn17 => (simp only [List.getElem?_toArray, List.getElem?_cons_succ, List.getElem?_cons_zero]; try rfl)
                        case wAn17 => rfl
                        case yAn17 => (intro w hSw; (try dsimp only at hSw); go_simp; (try with_reducible rfl))
                        (try simp only [Act.put, List.setIfInBounds_toArray, List.set_cons_zero, List.set_cons_succ])
                        refine wpAnyH_take (i := 18) (oi := ?oAn18) (v := ?vAn18) ?hiAn18 (by kernel_rfl) (by kernel_rfl) (by kernel_rfl) (fun _ _ _ h => h) (Or.inl ⟨?wAn18, ?yAn18⟩) (by assumption) ?rAn18
                        case hiAn18 => (simp only [List.getElem?_toArray, List.getElem?_cons_succ, List.getElem?_cons_zero]; try rfl)
                        case wAn18 => rfl
                        case yAn18 => (intro w hSw; (try dsimp only at hSw); go_simp; (try with_reducible rfl))
                        (try simp only [Act.put, List.setIfInBounds_toArray, List.set_cons_zero, List.set_cons_succ])
                        refine wpAnyH_take (i := 19) (oi := ?oAn19) (v := ?vAn19) ?hiAn19 (by kernel_rfl) (by kernel_rfl) (by kernel_rfl) (fun _ _ _ h => h) (Or.inl ⟨?wAn19, ?yAn19⟩) (by assumption) ?rAn19
                        case hiAn19 => (simp only [List.getElem?_toArray, List.getElem?_cons_succ, List.getElem?_cons_zero]; try rfl)
                        case wAn19 => rfl
                        case yAn19 => (intro w hSw; (try dsimp only at hSw); go_simp; (try with_reducible rfl))
                        (try simp only [Act.put, List.setIfInBounds_toArray, List.set_cons_zero, List.set_cons_succ])
                        refine wpAnyH_take (i := 21) (oi := ?oAn21) (v := ?vAn21) ?hiAn21 (by kernel_rfl) (by kernel_rfl) (by kernel_rfl) (fun _ _ _ h => h) (Or.inl ⟨?wAn21, ?yAn21⟩) (by assumption) ?rAn21
                        case hiAn21 => (simp only [List.getElem?_toArray, List.getElem?_cons_succ, List.getElem?_cons_zero]; try rfl)
                        case wAn21 => rfl
                        case yAn21 => (intro w hSw; (try dsimp only at hSw); go_simp; (try with_reducible rfl))
                        (try simp only [Act.put, List.setIfInBounds_toArray, List.set_cons_zero, List.set_cons_succ])
                        refine wpAnyH_take (i := 22) (oi := ?oAn22) (v := ?vAn22) ?hiAn22 (by kernel_rfl) (by kernel_rfl) (by kernel_rfl) (fun _ _ _ h => h) (Or.inl ⟨?wAn22, ?yAn22⟩) (by assumption) ?rAn22
                        case hiAn22 => (simp only [List.getElem?_toArray, List.getElem?_cons_succ, List.getElem?_cons_zero]; try rfl)
                        case wAn22 => rfl
                        case yAn22 => (intro w hSw; (try dsimp only at hSw); go_simp; (try with_reducible rfl))
                        (try simp only [Act.put, List.setIfInBounds_toArray, List.set_cons_zero, List.set_cons_succ])
                        refine wpAnyH_take (i := 23) (oi := ?oAn23) (v := ?vAn23) ?hiAn23 (by kernel_rfl) (by kernel_rfl) (by kernel_rfl) (fun _ _ _ h => h) (Or.inl ⟨?wAn23, ?yAn23⟩) (by assumption) ?rAn23
                        case hiAn23 => (simp only [List.getElem?_toArray, List.getElem?_cons_succ, List.getElem?_cons_zero]; try rfl)
                        case wAn23 => rfl
                        case yAn23 => (intro w hSw; (try dsimp only at hSw); go_simp; (try with_reducible rfl))
                        (try simp only [Act.put, List.setIfInBounds_toArray, List.set_cons_zero, List.set_cons_succ])
                        refine wpAnyH_take (i := 24) (oi := ?oAn24) (v := ?vAn24) ?hiAn24 (by kernel_rfl) (by kernel_rfl) (by kernel_rfl) (fun _ _ _ h => h) (Or.inl ⟨?wAn24, ?yAn24⟩) (by assumption) ?rAn24
                        case hiAn24 => (simp only [List.getElem?_toArray, List.getElem?_cons_succ, List.getElem?_cons_zero]; try rfl)
                        case wAn24 => rfl
                        case yAn24 => (intro w hSw; (try dsimp only at hSw); go_simp; (try with_reducible rfl))
                        (try simp only [Act.put, List.setIfInBounds_toArray, List.set_cons_zero, List.set_cons_succ])
                        refine wpAnyH_ready (rs := [20]) (by kernel_rfl) (by simp) ?_
                        refine AllReadyH.cons (o := ?oAn20) ?hiAn20 (fun K hK => ?_) AllReadyH.nil
                        case hiAn20 => (simp only [List.getElem?_toArray, List.getElem?_cons_succ, List.getElem?_cons_zero]; try rfl)
                        go_simp
                        refine (HOF.out _ K0.out hv0).mono ?_; rintro e w9 ⟨rfl, hk9⟩
                        go_wp2_with fail
                        refine hK.out _ _ (⟨hk9.cell' cr (fun f => f), hk9.cell' ch (fun f => f)⟩) (fun hHeld => ?_)
                        clear hK K
                        (try simp only [Act.put, List.setIfInBounds_toArray, List.set_cons_zero, List.set_cons_succ])
                        refine wpAnyH_take (i := 25) (oi := ?oAn25) (v := ?vAn25) ?hiAn25 (by kernel_rfl) (by kernel_rfl) (by kernel_rfl) (fun _ _ _ h => h) (Or.inl ⟨?wAn25, ?yAn25⟩) (by assumption) ?rAn25
                        case hiAn25 => (simp only [List.getElem?_toArray, List.getElem?_cons_succ, List.getElem?_cons_zero]; try rfl)
                        case wAn25 => rfl
                        case yAn25 => (intro w hSw; (try dsimp only at hSw); go_simp; (try with_reducible rfl))
                        (try simp only [Act.put, List.setIfInBounds_toArray, List.set_cons_zero, List.set_cons_succ])
                        refine wpAnyH_take (i := 26) (oi := ?oAn26) (v := ?vAn26) ?hiAn26 (by kernel_rfl) (by kernel_rfl) (by kernel_rfl) (fun _ _ _ h => h) (Or.inl ⟨?wAn26, ?yAn26⟩) (by assumption) ?rAn26
                        case hiAn26 => (simp only [List.getElem?_toArray, List.getElem?_cons_succ, List.getElem?_cons_zero]; try rfl)
                        case wAn26 => rfl
                        case yAn26 => (intro w hSw; (try dsimp only at hSw); go_simp; (try with_reducible rfl))
                        (try simp only [Act.put, List.setIfInBounds_toArray, List.set_cons_zero, List.set_cons_succ])
                        refine wpAnyH_take (i := 27) (oi := ?oAn27) (v := ?vAn27) ?hiAn27 (by kernel_rfl) (by kernel_rfl) (by kernel_rfl) (fun _ _ _ h => h) (Or.inl ⟨?wAn27, ?yAn27⟩) (by assumption) ?rAn27
                        case hiAn27 => (simp only [List.getElem?_toArray, List.getElem?_cons_succ, List.getElem?_cons_zero]; try rfl)
                        case wAn27 => rfl
                        case yAn27 => (intro w hSw; (try dsimp only at hSw); go_simp; (try with_reducible rfl))
                        (try simp only [Act.put, List.setIfInBounds_toArray, List.set_cons_zero, List.set_cons_succ])
                        refine wpAnyH_done (by kernel_rfl) ?_ _
                        refine NoPanic.normal ?_
                        have HB10 := Lib.hid (HB9.out.keepN (K0.out.trans' hk9))
                        go_wp2_with fail
                        go_roundw
                        case rel => exact ⟨j + 1, by omega, by go_num, HB10.out⟩
                        case measure => simp [intOf]; omega
                    · have hlt2 : ¬ (j : Int) < 4 := by omega
                      have hlt3 : decide ((j : Int) < 4) = false := by simp; omega
                      have HB10 := Lib.hid (HB9.out.s.kp)
                      have HB11 : Hid (∃ nb2 td2 ag2, nb2 ≤ 4 + 2 * (i + 1) ∧ BS w wr p mb tp tm nb2 H (.slice (some ⟨gr, 0, none⟩) 4 cp) td2 ag2) := Lib.hid ⟨_, _, _, by omega, HB9.out⟩
                      go_wp2_with fail
                      go_roundw
                      case rel => obtain ⟨nb2, td2, ag2, h1, h2⟩ := HB11.out; exact ⟨i + 1, nb2, td2, ag2, by omega, h1, by go_num, h2⟩
                      case measure => simp [intOf]; omega
                · have htk2 : takB td k t 4 = false := by simpa using htk
                  have HUB := Lib.hid (sst_bind HB1.out.s (idB k) t hbk hti (fun h => htk (takB_iff.2 h)) (idB_in hk4) (by omega))
                  have HX8 := Lib.hid (HB1.out.h.set hk4 t)
                  obtain ⟨x8, hx8⟩ : ∃ x8, idB k = x8 := ⟨_, rfl⟩
                  rw [hx8] at cr HUB
                  have HI8 := Lib.hid hx8
                  rw [htk2]
                  clear htk htk2 hx8 hbk hti
                  go_wp2_with fail
                  refine HUB.out.mono ?_
                  rintro e w6 ⟨rfl, hS6, hk6⟩
                  rw [← HI8.out] at hS6
                  have hn6 := HB1.out.n
                  have hH6 : HB w6 H td := by
                    unfold HB
                    rw [hk6.block H (lt_of_heap HB1.out.h) (fun f => by rcases f with f | f | f; exact hn6.2.1 f; exact hn6.2.2.1 f; exact hn6.2.2.2.2.1 f)]
                    exact HB1.out.h
                  have ch6 := hH6.cell hk4
                  have fh6 := free_of_heap hH6 k
                  have hks := (Keep.refl (fun q => q = H) w6).setCell (p := ⟨H, k, none⟩) (fun _ => rfl) (.int .i64 (t : Int))
                  have HB6 : Hid (BS w (w6.setCell ⟨H, k, none⟩ (.int .i64 (t : Int))) p mb tp tm (nb + 2) H (.slice (some ⟨gr, 0, none⟩) 4 cp) (tdUp td (idB k) t) (agUp ag (idB k))) := Lib.hid
                    ⟨hS6.keep hks (fun q e => by rw [e]; exact hn6.1) ⟨fun e => hn6.2.1 e.symm, fun e => hn6.2.2.1 e.symm, fun e => hn6.2.2.2.1 e.symm, fun e => hn6.2.2.2.2.1 e.symm⟩,
                      ⟨(HB1.out.r.keep hk6).1.keep hks (fun g hg e => hn6.2.2.2.2.2 (e ▸ hg)), (HB1.out.r.keep hk6).2⟩, hH6.set hk4 t, hn6⟩
                  clear hS6 hk6 hn6 hH6 hks cr
                  generalize tdUp td (idB k) (t : Int) = td2 at HB6
                  generalize agUp ag (idB k) = ag2 at HB6
                  go_upto_region 27 with fail
                  generalize w6.setCell ⟨H, k, none⟩ (.int .i64 (t : Int)) = w7 at HB6 ⊢
                  clear ch6 fh6 HUB HX8 HI8
                  go_wp2_with fail
                  go_loopw [15] (fun jv wr => ∃ (j : Nat), j ≤ 4 ∧ jv = .int .i64 j ∧ BS w wr p mb tp tm (nb + 2) H (.slice (some ⟨gr, 0, none⟩) 4 cp) td2 ag2) (fun jv _ => 4 - (intOf jv).toNat)
                  case atStart => exact ⟨0, Nat.zero_le _, rfl, HB6.out⟩
                  case round =>
                    obtain ⟨j, hj, rfl, hB⟩ := hrel
                    have HB9 := Lib.hid hB
                    clear hB
                    by_cases hlt : j < 4
                    · have hlt2 : (j : Int) < 4 := by omega
                      have hlt3 : decide ((j : Int) < 4) = true := by simp; omega
                      have hlt4 : decide (4 ≤ j) = false := by simp; omega
                      obtain ⟨gr2, e, cr⟩ := row_at (rowS_own HB9.out.r (idl_len 1 4)) (idl_len 1 4) j (by rw [idl_len]; exact hlt)
                      cases e
                      rw [idl_get] at cr
                      have ch := HB9.out.h.cell hlt
                      have htid : ∀ W, Keep NoF wr W → Calls Tryz.prog 32 #[.pointer (some ⟨p, 0, none⟩), .int .i64 (idB j)] W fun e w' => e = .returned (.int .i64 (td2 (idB j))) ∧ w' = W := fun W hW => by
                        have h := stid_any (HB9.out.keepN hW).s.1 (idB j) (idB_ki hlt)
                        rw [if_pos (idB_in hlt)] at h
                        exact h
                      have hof : ∀ W, Keep NoF wr W → td2 (idB j) ≠ 0 → Calls Tryz.prog 33 #[.pointer (some ⟨p, 0, none⟩), .int .i64 (td2 (idB j))] W fun e w' => e = .returned (.int .i64 (idB j)) ∧ Keep NoF W w' := fun W hW h0 => by
                        refine (sof_tot (HB9.out.keepN hW).s.1 (td2 (idB j))).mono ?_
                        rintro e w' ⟨r, rfl, hr, hk⟩
                        rcases hr with ⟨_, h1, h2⟩ | ⟨_, h1 | h1⟩
                        · rw [HB9.out.s.1.uq r h1 (idB j) (idB_in hlt) h2 (by rw [h2]; exact h0)]; exact ⟨rfl, hk⟩
                        · exact absurd h1 h0
                        · exact absurd rfl (h1 (idB j) (idB_in hlt))
                      generalize td2 (idB j) = hv at ch htid hof
                      generalize idB j = x9 at cr htid hof
                      have HTID := Lib.hid htid; have HOF := Lib.hid hof
                      have K0 := Lib.hid ((Keep.refl NoF wr).drew)
                      clear htid hof
                      go_upto_region 30 with fail
                      by_cases hv0 : hv = 0
                      · subst hv0
                        refine wp_region_noPanic ?_
                        refine wp_region_held_drew (S := (fun W : World => W.cell? ⟨gr, j, none⟩ = some (.int .i64 x9) ∧ W.cell? ⟨H, j, none⟩ = some (.int .i64 0))) (by kernel_rfl) (⟨cr, ch⟩) (fun hHeld => ?_)
                        refine wpAnyH_take (i := 0) (oi := ?oBz0) (v := ?vBz0) ?hiBz0 (by kernel_rfl) (by kernel_rfl) (by kernel_rfl) (fun _ _ _ h => h) (Or.inl ⟨?wBz0, ?yBz0⟩) (by assumption) ?rBz0
                        case hiBz0 => (simp only [List.getElem?_toArray, List.getElem?_cons_zero]; try rfl)
                        case wBz0 => rfl
                        case yBz0 => (intro w hSw; (try dsimp only at hSw); go_simp; (try with_reducible rfl))
                        (try simp only [Act.put, List.setIfInBounds_toArray, List.set_cons_zero, List.set_cons_succ])
                        refine wpAnyH_take (i := 1) (oi := ?oBz1) (v := ?vBz1) ?hiBz1 (by kernel_rfl) (by kernel_rfl) (by kernel_rfl) (fun _ _ _ h => h) (Or.inl ⟨?wBz1, ?yBz1⟩) (by assumption) ?rBz1
                        case hiBz1 => (simp only [List.getElem?_toArray, List.getElem?_cons_succ, List.getElem?_cons_zero]; try rfl)
                        case wBz1 => rfl
                        case yBz1 => (intro w hSw; (try dsimp only at hSw); go_simp; (try with_reducible rfl))
                        (try simp only [Act.put, List.setIfInBounds_toArray, List.set_cons_zero, List.set_cons_succ])
                        refine wpAnyH_take (i := 2) (oi := ?oBz2) (v := ?vBz2) ?hiBz2 (by kernel_rfl) (by kernel_rfl) (by kernel_rfl) (fun _ _ _ h => h) (Or.inl ⟨?wBz2, ?yBz2⟩) (by assumption) ?rBz2
                        case hiBz2 => (simp only [List.getElem?_toArray, List.getElem?_cons_succ, List.getElem?_cons_zero]; try rfl)
                        case wBz2 => rfl
                        case yBz2 => (intro w hSw; (try dsimp only at hSw); go_simp; (try with_reducible rfl))
                        (try simp only [Act.put, List.setIfInBounds_toArray, List.set_cons_zero, List.set_cons_succ])
                        refine wpAnyH_take (i := 3) (oi := ?oBz3) (v := ?vBz3) ?hiBz3 (by kernel_rfl) (by kernel_rfl) (by kernel_rfl) (fun _ _ _ h => h) (Or.inl ⟨?wBz3, ?yBz3⟩) (by assumption) ?rBz3
                        case hiBz3 => (simp only [List.getElem?_toArray, List.getElem?_cons_succ, List.getElem?_cons_zero]; try rfl)
                        case wBz3 => rfl
                        case yBz3 => (intro w hSw; (try dsimp only at hSw); go_simp; (try with_reducible rfl))
                        (try simp only [Act.put, List.setIfInBounds_toArray, List.set_cons_zero, List.set_cons_succ])
                        refine wpAnyH_take (i := 4) (oi := ?oBz4) (v := ?vBz4) ?hiBz4 (by kernel_rfl) (by kernel_rfl) (by kernel_rfl) (fun _ _ _ h => h) (Or.inl ⟨?wBz4, ?yBz4⟩) (by assumption) ?rBz4
                        case hiBz4 => (simp only [List.getElem?_toArray, List.getElem?_cons_succ, List.getElem?_cons_zero]; try rfl)
                        case wBz4 => rfl
                        case yBz4 => (intro w hSw; (try dsimp only at hSw); go_simp; (try with_reducible rfl))
                        (try simp only [Act.put, List.setIfInBounds_toArray, List.set_cons_zero, List.set_cons_succ])
                        refine wpAnyH_take (i := 6) (oi := ?oBz6) (v := ?vBz6) ?hiBz6 (by kernel_rfl) (by kernel_rfl) (by kernel_rfl) (fun _ _ _ h => h) (Or.inl ⟨?wBz6, ?yBz6⟩) (by assumption) ?rBz6
                        case hiBz6 => (simp only [List.getElem?_toArray, List.getElem?_cons_succ, List.getElem?_cons_zero]; try rfl)
                        case wBz6 => rfl
                        case yBz6 => (intro w hSw; (try dsimp only at hSw); go_simp; (try with_reducible rfl))
                        (try simp only [Act.put, List.setIfInBounds_toArray, List.set_cons_zero, List.set_cons_succ])
                        refine wpAnyH_take (i := 7) (oi := ?oBz7) (v := ?vBz7) ?hiBz7 (by kernel_rfl) (by kernel_rfl) (by kernel_rfl) (fun _ _ _ h => h) (Or.inl ⟨?wBz7, ?yBz7⟩) (by assumption) ?rBz7
                        case hiBz7 => (simp only [List.getElem?_toArray, List.getElem?_cons_succ, List.getElem?_cons_zero]; try rfl)
                        case wBz7 => rfl
                        case yBz7 => (intro w hSw; (try dsimp only at hSw); go_simp; (try with_reducible rfl))
                        (try simp only [Act.put, List.setIfInBounds_toArray, List.set_cons_zero, List.set_cons_succ])
                        refine wpAnyH_take (i := 8) (oi := ?oBz8) (v := ?vBz8) ?hiBz8 (by kernel_rfl) (by kernel_rfl) (by kernel_rfl) (fun _ _ _ h => h) (Or.inl ⟨?wBz8, ?yBz8⟩) (by assumption) ?rBz8
                        case hiBz8 => (simp only [List.getElem?_toArray, List.getElem?_cons_succ, List.getElem?_cons_zero]; try rfl)
                        case wBz8 => rfl
                        case yBz8 => (intro w hSw; (try dsimp only at hSw); go_simp; (try with_reducible rfl))
                        (try simp only [Act.put, List.setIfInBounds_toArray, List.set_cons_zero, List.set_cons_succ])
                        refine wpAnyH_ready (rs := [5]) (by kernel_rfl) (by simp) ?_
                        refine AllReadyH.cons (o := ?oBz5) ?hiBz5 (fun K hK => ?_) AllReadyH.nil
                        case hiBz5 => (simp only [List.getElem?_toArray, List.getElem?_cons_succ, List.getElem?_cons_zero]; try rfl)
                        go_simp
                        refine (HTID.out _ K0.out).mono ?_; rintro e w' ⟨rfl, rfl⟩
                        go_wp2_with fail
                        refine hK.out _ _ (⟨cr, ch⟩) (fun hHeld => ?_)
                        clear hK K
                        (try simp only [Act.put, List.setIfInBounds_toArray, List.set_cons_zero, List.set_cons_succ])
                        refine wpAnyH_take (i := 9) (oi := ?oBz9) (v := ?vBz9) ?hiBz9 (by kernel_rfl) (by kernel_rfl) (by kernel_rfl) (fun _ _ _ h => h) (Or.inl ⟨?wBz9, ?yBz9⟩) (by assumption) ?rBz9
                        case hiBz9 => (simp only [List.getElem?_toArray, List.getElem?_cons_succ, List.getElem?_cons_zero]; try rfl)
                        case wBz9 => rfl
                        case yBz9 => (intro w hSw; (try dsimp only at hSw); go_simp; (try with_reducible rfl))
                        (try simp only [Act.put, List.setIfInBounds_toArray, List.set_cons_zero, List.set_cons_succ])
                        refine wpAnyH_take (i := 10) (oi := ?oBz10) (v := ?vBz10) ?hiBz10 (by kernel_rfl) (by kernel_rfl) (by kernel_rfl) (fun _ _ _ h => h) (Or.inl ⟨?wBz10, ?yBz10⟩) (by assumption) ?rBz10
                        case hiBz10 => (simp only [List.getElem?_toArray, List.getElem?_cons_succ, List.getElem?_cons_zero]; try rfl)
                        case wBz10 => rfl
                        case yBz10 => (intro w hSw; (try dsimp only at hSw); go_simp; (try with_reducible rfl))
                        (try simp only [Act.put, List.setIfInBounds_toArray, List.set_cons_zero, List.set_cons_succ])
                        refine wpAnyH_take (i := 11) (oi := ?oBz11) (v := ?vBz11) ?hiBz11 (by kernel_rfl) (by kernel_rfl) (by kernel_rfl) (fun _ _ _ h => h) (Or.inl ⟨?wBz11, ?yBz11⟩) (by assumption) ?rBz11
                        case hiBz11 => (simp only [List.getElem?_toArray, List.getElem?_cons_succ, List.getElem?_cons_zero]; try rfl)
                        case wBz11 => rfl
                        case yBz11 => (intro w hSw; (try dsimp only at hSw); go_simp; (try with_reducible rfl))
                        (try simp only [Act.put, List.setIfInBounds_toArray, List.set_cons_zero, List.set_cons_succ])
                        refine wpAnyH_take (i := 12) (oi := ?oBz12) (v := ?vBz12) ?hiBz12 (by kernel_rfl) (by kernel_rfl) (by kernel_rfl) (fun _ _ _ h => h) (Or.inl ⟨?wBz12, ?yBz12⟩) (by assumption) ?rBz12
                        case hiBz12 => (simp only [List.getElem?_toArray, List.getElem?_cons_succ, List.getElem?_cons_zero]; try rfl)
                        case wBz12 => rfl
                        case yBz12 => (intro w hSw; (try dsimp only at hSw); go_simp; (try with_reducible rfl))
                        (try simp only [Act.put, List.setIfInBounds_toArray, List.set_cons_zero, List.set_cons_succ])
                        refine wpAnyH_take (i := 13) (oi := ?oBz13) (v := ?vBz13) ?hiBz13 (by kernel_rfl) (by kernel_rfl) (by kernel_rfl) (fun _ _ _ h => h) (Or.inl ⟨?wBz13, ?yBz13⟩) (by assumption) ?rBz13
                        case hiBz13 => (simp only [List.getElem?_toArray, List.getElem?_cons_succ, List.getElem?_cons_zero]; try rfl)
                        case wBz13 => rfl
                        case yBz13 => (intro w hSw; (try dsimp only at hSw); go_simp; (try with_reducible rfl))
                        (try simp only [Act.put, List.setIfInBounds_toArray, List.set_cons_zero, List.set_cons_succ])
                        refine wpAnyH_take (i := 14) (oi := ?oBz14) (v := ?vBz14) ?hiBz14 (by kernel_rfl) (by kernel_rfl) (by kernel_rfl) (fun _ _ _ h => h) (Or.inl ⟨?wBz14, ?yBz14⟩) (by assumption) ?rBz14
                        case hiBz14 => (simp only [List.getElem?_toArray, List.getElem?_cons_succ, List.getElem?_cons_zero]; try rfl)
                        case wBz14 => rfl
                        case yBz14 => (intro w hSw; (try dsimp only at hSw); go_simp; (try with_reducible rfl))
                        (try simp only [Act.put, List.setIfInBounds_toArray, List.set_cons_zero, List.set_cons_succ])
                        refine wpAnyH_take (i := 15) (oi := ?oBz15) (v := ?vBz15) ?hiBz15 (by kernel_rfl) (by kernel_rfl) (by kernel_rfl) (fun _ _ _ h => h) (Or.inl ⟨?wBz15, ?yBz15⟩) (by assumption) ?rBz15
                        case hiBz15 => (simp only [List.getElem?_toArray, List.getElem?_cons_succ, List.getElem?_cons_zero]; try rfl)
                        case wBz15 => rfl
                        case yBz15 => (intro w hSw; (try dsimp only at hSw); go_simp; (try with_reducible rfl))
                        (try simp only [Act.put, List.setIfInBounds_toArray, List.set_cons_zero, List.set_cons_succ])
                        refine wpAnyH_take (i := 16) (oi := ?oBz16) (v := undef) ?hiBz16 (by kernel_rfl) (by kernel_rfl) (by kernel_rfl) (fun _ _ _ h => h) (Or.inr ⟨?wBz16, rfl⟩) (by assumption) ?rBz16
                        case hiBz16 => (simp only [List.getElem?_toArray, List.getElem?_cons_succ, List.getElem?_cons_zero]; try rfl)
                        case wBz16 => rfl
                        (try simp only [Act.put, List.setIfInBounds_toArray, List.set_cons_zero, List.set_cons_succ])
                        refine wpAnyH_take (i := 17) (oi := ?oBz17) (v := undef) ?hiBz17 (by kernel_rfl) (by kernel_rfl) (by kernel_rfl) (fun _ _ _ h => h) (Or.inr ⟨?wBz17, rfl⟩) (by assumption) ?rBz17
                        case hiBz17 => (simp only [List.getElem?_toArray, List.getElem?_cons_succ, List.getElem?_cons_zero]; try rfl)
                        case wBz17 => rfl
                        (try simp only [Act.put, List.setIfInBounds_toArray, List.set_cons_zero, List.set_cons_succ])
                        refine wpAnyH_take (i := 18) (oi := ?oBz18) (v := undef) ?hiBz18 (by kernel_rfl) (by kernel_rfl) (by kernel_rfl) (fun _ _ _ h => h) (Or.inr ⟨?wBz18, rfl⟩) (by assumption) ?rBz18
                        case hiBz18 => (simp only [List.getElem?_toArray, List.getElem?_cons_succ, List.getElem?_cons_zero]; try rfl)
                        case wBz18 => rfl
                        (try simp only [Act.put, List.setIfInBounds_toArray, List.set_cons_zero, List.set_cons_succ])
                        refine wpAnyH_take (i := 19) (oi := ?oBz19) (v := undef) ?hiBz19 (by kernel_rfl) (by kernel_rfl) (by kernel_rfl) (fun _ _ _ h => h) (Or.inr ⟨?wBz19, rfl⟩) (by assumption) ?rBz19
                        case hiBz19 => (simp only [List.getElem?_toArray, List.getElem?_cons_succ, List.getElem?_cons_zero]; try rfl)
                        case wBz19 => rfl
                        (try simp only [Act.put, List.setIfInBounds_toArray, List.set_cons_zero, List.set_cons_succ])
                        refine wpAnyH_take (i := 20) (oi := ?oBz20) (v := undef) ?hiBz20 (by kernel_rfl) (by kernel_rfl) (by kernel_rfl) (fun _ _ _ h => h) (Or.inr ⟨?wBz20, rfl⟩) (by assumption) ?rBz20
                        case hiBz20 => (simp only [List.getElem?_toArray, List.getElem?_cons_succ, List.getElem?_cons_zero]; try rfl)
                        case wBz20 => rfl
                        (try simp only [Act.put, List.setIfInBounds_toArray, List.set_cons_zero, List.set_cons_succ])
                        refine wpAnyH_take (i := 21) (oi := ?oBz21) (v := undef) ?hiBz21 (by kernel_rfl) (by kernel_rfl) (by kernel_rfl) (fun _ _ _ h => h) (Or.inr ⟨?wBz21, rfl⟩) (by assumption) ?rBz21
                        case hiBz21 => (simp only [List.getElem?_toArray, List.getElem?_cons_succ, List.getElem?_cons_zero]; try rfl)
                        case wBz21 => rfl
                        (try simp only [Act.put, List.setIfInBounds_toArray, List.set_cons_zero, List.set_cons_succ])
                        refine wpAnyH_take (i := 22) (oi := ?oBz22) (v := undef) ?hiBz22 (by kernel_rfl) (by kernel_rfl) (by kernel_rfl) (fun _ _ _ h => h) (Or.inr ⟨?wBz22, rfl⟩) (by assumption) ?rBz22
                        case hiBz22 => (simp only [List.getElem?_toArray, List.getElem?_cons_succ, List.getElem?_cons_zero]; try rfl)
                        case wBz22 => rfl
                        (try simp only [Act.put, List.setIfInBounds_toArray, List.set_cons_zero, List.set_cons_succ])
                        refine wpAnyH_take (i := 23) (oi := ?oBz23) (v := undef) ?hiBz23 (by kernel_rfl) (by kernel_rfl) (by kernel_rfl) (fun _ _ _ h => h) (Or.inr ⟨?wBz23, rfl⟩) (by assumption) ?rBz23
                        case hiBz23 => (simp only [List.getElem?_toArray, List.getElem?_cons_succ, List.getElem?_cons_zero]; try rfl)
                        case wBz23 => rfl
                        (try simp only [Act.put, List.setIfInBounds_toArray, List.set_cons_zero, List.set_cons_succ])
                        refine wpAnyH_take (i := 24) (oi := ?oBz24) (v := undef) ?hiBz24 (by kernel_rfl) (by kernel_rfl) (by kernel_rfl) (fun _ _ _ h => h) (Or.inr ⟨?wBz24, rfl⟩) (by assumption) ?rBz24
                        case hiBz24 => (simp only [List.getElem?_toArray, List.getElem?_cons_succ, List.getElem?_cons_zero]; try rfl)
                        case wBz24 => rfl
                        (try simp only [Act.put, List.setIfInBounds_toArray, List.set_cons_zero, List.set_cons_succ])
                        refine wpAnyH_take (i := 25) (oi := ?oBz25) (v := undef) ?hiBz25 (by kernel_rfl) (by kernel_rfl) (by kernel_rfl) (fun _ _ _ h => h) (Or.inr ⟨?wBz25, rfl⟩) (by assumption) ?rBz25
                        case hiBz25 => (simp only [List.getElem?_toArray, List.getElem?_cons_succ, List.getElem?_cons_zero]; try rfl)
                        case wBz25 => rfl
                        (try simp only [Act.put, List.setIfInBounds_toArray, List.set_cons_zero, List.set_cons_succ])
                        refine wpAnyH_take (i := 26) (oi := ?oBz26) (v := ?vBz26) ?hiBz26 (by kernel_rfl) (by kernel_rfl) (by kernel_rfl) (fun _ _ _ h => h) (Or.inl ⟨?wBz26, ?yBz26⟩) (by assumption) ?rBz26
                        case hiBz26 => (simp only [List.getElem?_toArray, List.getElem?_cons_succ, List.getElem?_cons_zero]; try rfl)
                        case wBz26 => rfl
                        case yBz26 => (intro w hSw; (try dsimp only at hSw); go_simp; (try with_reducible rfl))
                        (try simp only [Act.put, List.setIfInBounds_toArray, List.set_cons_zero, List.set_cons_succ])
                        refine wpAnyH_take (i := 27) (oi := ?oBz27) (v := ?vBz27) ?hiBz27 (by kernel_rfl) (by kernel_rfl) (by kernel_rfl) (fun _ _ _ h => h) (Or.inl ⟨?wBz27, ?yBz27⟩) (by assumption) ?rBz27
                        case hiBz27 => (simp only [List.getElem?_toArray, List.getElem?_cons_succ, List.getElem?_cons_zero]; try rfl)
                        case wBz27 => rfl
                        case yBz27 => (intro w hSw; (try dsimp only at hSw); go_simp; (try with_reducible rfl))
                        (try simp only [Act.put, List.setIfInBounds_toArray, List.set_cons_zero, List.set_cons_succ])
                        refine wpAnyH_done (by kernel_rfl) ?_ _
                        refine NoPanic.normal ?_
                        have HB10 := Lib.hid (HB9.out.keepN K0.out)
                        go_wp2_with fail
                        go_roundw
                        case rel => exact ⟨j + 1, by omega, by go_num, HB10.out⟩
                        case measure => simp [intOf]; omega
                      · have hv1 : (hv != 0) = true := by simp [hv0]
                        refine wp_region_noPanic ?_
                        refine wp_region_held_drew (S := (fun W : World => W.cell? ⟨gr, j, none⟩ = some (.int .i64 x9) ∧ W.cell? ⟨H, j, none⟩ = some (.int .i64 hv))) (by kernel_rfl) (⟨cr, ch⟩) (fun hHeld => ?_)
                        refine wpAnyH_take (i := 0) (oi := ?oBn0) (v := ?vBn0) ?hiBn0 (by kernel_rfl) (by kernel_rfl) (by kernel_rfl) (fun _ _ _ h => h) (Or.inl ⟨?wBn0, ?yBn0⟩) (by assumption) ?rBn0
                        case hiBn0 => (simp only [List.getElem?_toArray, List.getElem?_cons_zero]; try rfl)
                        case wBn0 => rfl
                        case yBn0 => (intro w hSw; (try dsimp only at hSw); go_simp; (try with_reducible rfl))
                        (try simp only [Act.put, List.setIfInBounds_toArray, List.set_cons_zero, List.set_cons_succ])
                        refine wpAnyH_take (i := 1) (oi := ?oBn1) (v := ?vBn1) ?hiBn1 (by kernel_rfl) (by kernel_rfl) (by kernel_rfl) (fun _ _ _ h => h) (Or.inl ⟨?wBn1, ?yBn1⟩) (by assumption) ?rBn1
                        case hiBn1 => (simp only [List.getElem?_toArray, List.getElem?_cons_succ, List.getElem?_cons_zero]; try rfl)
                        case wBn1 => rfl
                        case yBn1 => (intro w hSw; (try dsimp only at hSw); go_simp; (try with_reducible rfl))
                        (try simp only [Act.put, List.setIfInBounds_toArray, List.set_cons_zero, List.set_cons_succ])
                        refine wpAnyH_take (i := 2) (oi := ?oBn2) (v := ?vBn2) ?hiBn2 (by kernel_rfl) (by kernel_rfl) (by kernel_rfl) (fun _ _ _ h => h) (Or.inl ⟨?wBn2, ?yBn2⟩) (by assumption) ?rBn2
                        case hiBn2 => (simp only [List.getElem?_toArray, List.getElem?_cons_succ, List.getElem?_cons_zero]; try rfl)
                        case wBn2 => rfl
                        case yBn2 => (intro w hSw; (try dsimp only at hSw); go_simp; (try with_reducible rfl))
                        (try simp only [Act.put, List.setIfInBounds_toArray, List.set_cons_zero, List.set_cons_succ])
                        refine wpAnyH_take (i := 3) (oi := ?oBn3) (v := ?vBn3) ?hiBn3 (by kernel_rfl) (by kernel_rfl) (by kernel_rfl) (fun _ _ _ h => h) (Or.inl ⟨?wBn3, ?yBn3⟩) (by assumption) ?rBn3
                        case hiBn3 => (simp only [List.getElem?_toArray, List.getElem?_cons_succ, List.getElem?_cons_zero]; try rfl)
                        case wBn3 => rfl
                        case yBn3 => (intro w hSw; (try dsimp only at hSw); go_simp; (try with_reducible rfl))
                        (try simp only [Act.put, List.setIfInBounds_toArray, List.set_cons_zero, List.set_cons_succ])
                        refine wpAnyH_take (i := 4) (oi := ?oBn4) (v := ?vBn4) ?hiBn4 (by kernel_rfl) (by kernel_rfl) (by kernel_rfl) (fun _ _ _ h => h) (Or.inl ⟨?wBn4, ?yBn4⟩) (by assumption) ?rBn4
                        case hiBn4 => (simp only [List.getElem?_toArray, List.getElem?_cons_succ, List.getElem?_cons_zero]; try rfl)
                        case wBn4 => rfl
                        case yBn4 => (intro w hSw; (try dsimp only at hSw); go_simp; (try with_reducible rfl))
                        (try simp only [Act.put, List.setIfInBounds_toArray, List.set_cons_zero, List.set_cons_succ])
                        refine wpAnyH_take (i := 6) (oi := ?oBn6) (v := ?vBn6) ?hiBn6 (by kernel_rfl) (by kernel_rfl) (by kernel_rfl) (fun _ _ _ h => h) (Or.inl ⟨?wBn6, ?yBn6⟩) (by assumption) ?rBn6
                        case hiBn6 => (simp only [List.getElem?_toArray, List.getElem?_cons_succ, List.getElem?_cons_zero]; try rfl)
                        case wBn6 => rfl
                        case yBn6 => (intro w hSw; (try dsimp only at hSw); go_simp; (try with_reducible rfl))
                        (try simp only [Act.put, List.setIfInBounds_toArray, List.set_cons_zero, List.set_cons_succ])
                        refine wpAnyH_take (i := 7) (oi := ?oBn7) (v := ?vBn7) ?hiBn7 (by kernel_rfl) (by kernel_rfl) (by kernel_rfl) (fun _ _ _ h => h) (Or.inl ⟨?wBn7, ?yBn7⟩) (by assumption) ?rBn7
                        case hiBn7 => (simp only [List.getElem?_toArray, List.getElem?_cons_succ, List.getElem?_cons_zero]; try rfl)
                        case wBn7 => rfl
                        case yBn7 => (intro w hSw; (try dsimp only at hSw); go_simp; (try with_reducible rfl))
                        (try simp only [Act.put, List.setIfInBounds_toArray, List.set_cons_zero, List.set_cons_succ])
                        refine wpAnyH_take (i := 8) (oi := ?oBn8) (v := ?vBn8) ?hiBn8 (by kernel_rfl) (by kernel_rfl) (by kernel_rfl) (fun _ _ _ h => h) (Or.inl ⟨?wBn8, ?yBn8⟩) (by assumption) ?rBn8
                        case hiBn8 => (simp only [List.getElem?_toArray, List.getElem?_cons_succ, List.getElem?_cons_zero]; try rfl)
                        case wBn8 => rfl
                        case yBn8 => (intro w hSw; (try dsimp only at hSw); go_simp; (try with_reducible rfl))
                        (try simp only [Act.put, List.setIfInBounds_toArray, List.set_cons_zero, List.set_cons_succ])
                        refine wpAnyH_ready (rs := [5]) (by kernel_rfl) (by simp) ?_
                        refine AllReadyH.cons (o := ?oBn5) ?hiBn5 (fun K hK => ?_) AllReadyH.nil
                        case hiBn5 => (simp only [List.getElem?_toArray, List.getElem?_cons_succ, List.getElem?_cons_zero]; try rfl)
                        go_simp
                        refine (HTID.out _ K0.out).mono ?_; rintro e w' ⟨rfl, rfl⟩
                        go_wp2_with fail
                        refine hK.out _ _ (⟨cr, ch⟩) (fun hHeld => ?_)
                        clear hK K
                        (try simp only [Act.put, List.setIfInBounds_toArray, List.set_cons_zero, List.set_cons_succ])
                        refine wpAnyH_take (i := 9) (oi := ?oBn9) (v := ?vBn9) ?hiBn9 (by kernel_rfl) (by kernel_rfl) (by kernel_rfl) (fun _ _ _ h => h) (Or.inl ⟨?wBn9, ?yBn9⟩) (by assumption) ?rBn9
                        case hiBn9 => (simp only [List.getElem?_toArray, List.getElem?_cons_succ, List.getElem?_cons_zero]; try rfl)
                        case wBn9 => rfl
                        case yBn9 => (intro w hSw; (try dsimp only at hSw); go_simp; (try with_reducible rfl))
                        (try simp only [Act.put, List.setIfInBounds_toArray, List.set_cons_zero, List.set_cons_succ])
                        refine wpAnyH_take (i := 10) (oi := ?oBn10) (v := ?vBn10) ?hiBn10 (by kernel_rfl) (by kernel_rfl) (by kernel_rfl) (fun _ _ _ h => h) (Or.inl ⟨?wBn10, ?yBn10⟩) (by assumption) ?rBn10
                        case hiBn10 => (simp only [List.getElem?_toArray, List.getElem?_cons_succ, List.getElem?_cons_zero]; try rfl)
                        case wBn10 => rfl
                        case yBn10 => (intro w hSw; (try dsimp only at hSw); go_simp; (try with_reducible rfl))
                        (try simp only [Act.put, List.setIfInBounds_toArray, List.set_cons_zero, List.set_cons_succ])
                        refine wpAnyH_take (i := 11) (oi := ?oBn11) (v := ?vBn11) ?hiBn11 (by kernel_rfl) (by kernel_rfl) (by kernel_rfl) (fun _ _ _ h => h) (Or.inl ⟨?wBn11, ?yBn11⟩) (by assumption) ?rBn11
                        case hiBn11 => (simp only [List.getElem?_toArray, List.getElem?_cons_succ, List.getElem?_cons_zero]; try rfl)
                        case wBn11 => rfl
                        case yBn11 => (intro w hSw; (try dsimp only at hSw); go_simp; (try with_reducible rfl))
                        (try simp only [Act.put, List.setIfInBounds_toArray, List.set_cons_zero, List.set_cons_succ])
                        refine wpAnyH_take (i := 12) (oi := ?oBn12) (v := ?vBn12) ?hiBn12 (by kernel_rfl) (by kernel_rfl) (by kernel_rfl) (fun _ _ _ h => h) (Or.inl ⟨?wBn12, ?yBn12⟩) (by assumption) ?rBn12
                        case hiBn12 => (simp only [List.getElem?_toArray, List.getElem?_cons_succ, List.getElem?_cons_zero]; try rfl)
                        case wBn12 => rfl
                        case yBn12 => (intro w hSw; (try dsimp only at hSw); go_simp; (try with_reducible rfl))
                        (try simp only [Act.put, List.setIfInBounds_toArray, List.set_cons_zero, List.set_cons_succ])
                        refine wpAnyH_take (i := 13) (oi := ?oBn13) (v := ?vBn13) ?hiBn13 (by kernel_rfl) (by kernel_rfl) (by kernel_rfl) (fun _ _ _ h => h) (Or.inl ⟨?wBn13, ?yBn13⟩) (by assumption) ?rBn13
                        case hiBn13 => (simp only [List.getElem?_toArray, List.getElem?_cons_succ, List.getElem?_cons_zero]; try rfl)
                        case wBn13 => rfl
                        case yBn13 => (intro w hSw; (try dsimp only at hSw); go_simp; (try with_reducible rfl))
                        (try simp only [Act.put, List.setIfInBounds_toArray, List.set_cons_zero, List.set_cons_succ])
                        refine wpAnyH_take (i := 14) (oi := ?oBn14) (v := ?vBn14) ?hiBn14 (by kernel_rfl) (by kernel_rfl) (by kernel_rfl) (fun _ _ _ h => h) (Or.inl ⟨?wBn14, ?yBn14⟩) (by assumption) ?rBn14
                        case hiBn14 => (simp only [List.getElem?_toArray, List.getElem?_cons_succ, List.getElem?_cons_zero]; try rfl)
                        case wBn14 => rfl
                        case yBn14 => (intro w hSw; (try dsimp only at hSw); go_simp; (try with_reducible rfl))
                        (try simp only [Act.put, List.setIfInBounds_toArray, List.set_cons_zero, List.set_cons_succ])
                        refine wpAnyH_take (i := 15) (oi := ?oBn15) (v := ?vBn15) ?hiBn15 (by kernel_rfl) (by kernel_rfl) (by kernel_rfl) (fun _ _ _ h => h) (Or.inl ⟨?wBn15, ?yBn15⟩) (by assumption) ?rBn15
                        case hiBn15 => (simp only [List.getElem?_toArray, List.getElem?_cons_succ, List.getElem?_cons_zero]; try rfl)
                        case wBn15 => rfl
                        case yBn15 => (intro w hSw; (try dsimp only at hSw); go_simp; (try with_reducible rfl))
                        (try simp only [Act.put, List.setIfInBounds_toArray, List.set_cons_zero, List.set_cons_succ])
                        refine wpAnyH_take (i := 16) (oi := ?oBn16) (v := ?vBn16) ?hiBn16 (by kernel_rfl) (by kernel_rfl) (by kernel_rfl) (fun _ _ _ h => h) (Or.inl ⟨?wBn16, ?yBn16⟩) (by assumption) ?rBn16
                        case hiBn16 => (simp only [List.getElem?_toArray, List.getElem?_cons_succ, List.getElem?_cons_zero]; try rfl)
                        case wBn16 => rfl
                        case yBn16 => (intro w hSw; (try dsimp only at hSw); go_simp; (try with_reducible rfl))
                        (try simp only [Act.put, List.setIfInBounds_toArray, List.set_cons_zero, List.set_cons_succ])
                        refine wpAnyH_take (i := 17) (oi := ?oBn17) (v := ?vBn17) ?hiBn17 (by kernel_rfl) (by kernel_rfl) (by kernel_rfl) (fun _ _ _ h => h) (Or.inl ⟨?wBn17, ?yBn17⟩) (by assumption) ?rBn17
                        case hiBn17 => (simp only [List.getElem?_toArray, List.getElem?_cons_succ, List.getElem?_cons_zero]; try rfl)
                        case wBn17 => rfl
                        case yBn17 => (intro w hSw; (try dsimp only at hSw); go_simp; (try with_reducible rfl))
                        (try simp only [Act.put, List.setIfInBounds_toArray, List.set_cons_zero, List.set_cons_succ])
                        refine wpAnyH_take (i := 18) (oi := ?oBn18) (v := ?vBn18) ?hiBn18 (by kernel_rfl) (by kernel_rfl) (by kernel_rfl) (fun _ _ _ h => h) (Or.inl ⟨?wBn18, ?yBn18⟩) (by assumption) ?rBn18
                        case hiBn18 => (simp only [List.getElem?_toArray, List.getElem?_cons_succ, List.getElem?_cons_zero]; try rfl)
                        case wBn18 => rfl
                        case yBn18 => (intro w hSw; (try dsimp only at hSw); go_simp; (try with_reducible rfl))
                        (try simp only [Act.put, List.setIfInBounds_toArray, List.set_cons_zero, List.set_cons_succ])
                        refine wpAnyH_take (i := 19) (oi := ?oBn19) (v := ?vBn19) ?hiBn19 (by kernel_rfl) (by kernel_rfl) (by kernel_rfl) (fun _ _ _ h => h) (Or.inl ⟨?wBn19, ?yBn19⟩) (by assumption) ?rBn19
                        case hiBn19 => (simp only [List.getElem?_toArray, List.getElem?_cons_succ, List.getElem?_cons_zero]; try rfl)
                        case wBn19 => rfl
                        case yBn19 => (intro w hSw; (try dsimp only at hSw); go_simp; (try with_reducible rfl))
                        (try simp only [Act.put, List.setIfInBounds_toArray, List.set_cons_zero, List.set_cons_succ])
                        refine wpAnyH_take (i := 21) (oi := ?oBn21) (v := ?vBn21) ?hiBn21 (by kernel_rfl) (by kernel_rfl) (by kernel_rfl) (fun _ _ _ h => h) (Or.inl ⟨?wBn21, ?yBn21⟩) (by assumption) ?rBn21
                        case hiBn21 => (simp only [List.getElem?_toArray, List.getElem?_cons_succ, List.getElem?_cons_zero]; try rfl)
                        case wBn21 => rfl
                        case yBn21 => (intro w hSw; (try dsimp only at hSw); go_simp; (try with_reducible rfl))
                        (try simp only [Act.put, List.setIfInBounds_toArray, List.set_cons_zero, List.set_cons_succ])
                        refine wpAnyH_take (i := 22) (oi := ?oBn22) (v := ?vBn22) ?hiBn22 (by kernel_rfl) (by kernel_rfl) (by kernel_rfl) (fun _ _ _ h => h) (Or.inl ⟨?wBn22, ?yBn22⟩) (by assumption) ?rBn22
                        case hiBn22 => (simp only [List.getElem?_toArray, List.getElem?_cons_succ, List.getElem?_cons_zero]; try rfl)
                        case wBn22 => rfl
                        case yBn22 => (intro w hSw; (try dsimp only at hSw); go_simp; (try with_reducible rfl))
                        (try simp only [Act.put, List.setIfInBounds_toArray, List.set_cons_zero, List.set_cons_succ])
                        refine wpAnyH_take (i := 23) (oi := ?oBn23) (v := ?vBn23) ?hiBn23 (by kernel_rfl) (by kernel_rfl) (by kernel_rfl) (fun _ _ _ h => h) (Or.inl ⟨?wBn23, ?yBn23⟩) (by assumption) ?rBn23
                        case hiBn23 => (simp only [List.getElem?_toArray, List.getElem?_cons_succ, List.getElem?_cons_zero]; try rfl)
                        case wBn23 => rfl
                        case yBn23 => (intro w hSw; (try dsimp only at hSw); go_simp; (try with_reducible rfl))
                        (try simp only [Act.put, List.setIfInBounds_toArray, List.set_cons_zero, List.set_cons_succ])
                        refine wpAnyH_take (i := 24) (oi := ?oBn24) (v := ?vBn24) ?hiBn24 (by kernel_rfl) (by kernel_rfl) (by kernel_rfl) (fun _ _ _ h => h) (Or.inl ⟨?wBn24, ?yBn24⟩) (by assumption) ?rBn24
                        case hiBn24 => (simp only [List.getElem?_toArray, List.getElem?_cons_succ, List.getElem?_cons_zero]; try rfl)
                        case wBn24 => rfl
                        case yBn24 => (intro w hSw; (try dsimp only at hSw); go_simp; (try with_reducible rfl))
                        (try simp only [Act.put, List.setIfInBounds_toArray, List.set_cons_zero, List.set_cons_succ])
                        refine wpAnyH_ready (rs := [20]) (by kernel_rfl) (by simp) ?_
                        refine AllReadyH.cons (o := ?oBn20) ?hiBn20 (fun K hK => ?_) AllReadyH.nil
                        case hiBn20 => (simp only [List.getElem?_toArray, List.getElem?_cons_succ, List.getElem?_cons_zero]; try rfl)
                        go_simp
                        refine (HOF.out _ K0.out hv0).mono ?_; rintro e w9 ⟨rfl, hk9⟩
                        go_wp2_with fail
                        refine hK.out _ _ (⟨hk9.cell' cr (fun f => f), hk9.cell' ch (fun f => f)⟩) (fun hHeld => ?_)
                        clear hK K
                        (try simp only [Act.put, List.setIfInBounds_toArray, List.set_cons_zero, List.set_cons_succ])
                        refine wpAnyH_take (i := 25) (oi := ?oBn25) (v := ?vBn25) ?hiBn25 (by kernel_rfl) (by kernel_rfl) (by kernel_rfl) (fun _ _ _ h => h) (Or.inl ⟨?wBn25, ?yBn25⟩) (by assumption) ?rBn25
                        case hiBn25 => (simp only [List.getElem?_toArray, List.getElem?_cons_succ, List.getElem?_cons_zero]; try rfl)
                        case wBn25 => rfl
                        case yBn25 => (intro w hSw; (try dsimp only at hSw); go_simp; (try with_reducible rfl))
                        (try simp only [Act.put, List.setIfInBounds_toArray, List.set_cons_zero, List.set_cons_succ])
                        refine wpAnyH_take (i := 26) (oi := ?oBn26) (v := ?vBn26) ?hiBn26 (by kernel_rfl) (by kernel_rfl) (by kernel_rfl) (fun _ _ _ h => h) (Or.inl ⟨?wBn26, ?yBn26⟩) (by assumption) ?rBn26
                        case hiBn26 => (simp only [List.getElem?_toArray, List.getElem?_cons_succ, List.getElem?_cons_zero]; try rfl)
                        case wBn26 => rfl
                        case yBn26 => (intro w hSw; (try dsimp only at hSw); go_simp; (try with_reducible rfl))
                        (try simp only [Act.put, List.setIfInBounds_toArray, List.set_cons_zero, List.set_cons_succ])
                        refine wpAnyH_take (i := 27) (oi := ?oBn27) (v := ?vBn27) ?hiBn27 (by kernel_rfl) (by kernel_rfl) (by kernel_rfl) (fun _ _ _ h => h) (Or.inl ⟨?wBn27, ?yBn27⟩) (by assumption) ?rBn27
                        case hiBn27 => (simp only [List.getElem?_toArray, List.getElem?_cons_succ, List.getElem?_cons_zero]; try rfl)
                        case wBn27 => rfl
                        case yBn27 => (intro w hSw; (try dsimp only at hSw); go_simp; (try with_reducible rfl))
                        (try simp only [Act.put, List.setIfInBounds_toArray, List.set_cons_zero, List.set_cons_succ])
                        refine wpAnyH_done (by kernel_rfl) ?_ _
                        refine NoPanic.normal ?_
                        have HB10 := Lib.hid (HB9.out.keepN (K0.out.trans' hk9))
                        go_wp2_with fail
                        go_roundw
                        case rel => exact ⟨j + 1, by omega, by go_num, HB10.out⟩
                        case measure => simp [intOf]; omega
                    · have hlt2 : ¬ (j : Int) < 4 := by omega
                      have hlt3 : decide ((j : Int) < 4) = false := by simp; omega
                      have HB10 := Lib.hid (HB9.out.s.kp)
                      have HB11 : Hid (∃ nb2 td2 ag2, nb2 ≤ 4 + 2 * (i + 1) ∧ BS w wr p mb tp tm nb2 H (.slice (some ⟨gr, 0, none⟩) 4 cp) td2 ag2) := Lib.hid ⟨_, _, _, by omega, HB9.out⟩
                      go_wp2_with fail
                      go_roundw
                      case rel => obtain ⟨nb2, td2, ag2, h1, h2⟩ := HB11.out; exact ⟨i + 1, nb2, td2, ag2, by omega, h1, by go_num, h2⟩
                      case measure => simp [intOf]; omega
          · have h40b : ¬ (i : Int) < 40 := by omega
            have h40c : decide ((i : Int) < 40) = false := by simp [h40b]
            go_wp2_with fail
            go_ret
            exact ⟨rfl, KP.out⟩
        · have hlt2 : ¬ (i : Int) < len := by omega
          have hlt3 : decide (i < len) = false := by simp [hlt]
          have hlt4 : decide (len ≤ i) = true := by simp; omega
          go_wp2_with fail
          go_ret
          exact ⟨rfl, KP.out⟩

set_option linter.unusedVariables false
set_option maxRecDepth 100000 in
theorem lifted (os : Os) (started : os.Started) (H : Type) (enc : TypeId × Value → H) :
    ReturnsInHanded {} Tryz.checked os 9 .any (Rows.sessBindSpec.pre6 enc Tryz.prog Tryz.f9 Rows.sessBindRow.domain false) (Rows.sessBindSpec.post enc Tryz.prog Tryz.f9 false true false false) := by
  refine returnsInHanded_of_change (C := Tryz.checked) own started (by kernel_rfl) Tryz.func9
    (ChangeSpec.witness6 (enc := enc) (C := Tryz.checked) false ⟨#[], #[.slice none 0 0], []⟩ 8 (by kernel_rfl) (by kernel_rfl) (by kernel_rfl) (by kernel_rfl)) ?_
  intro W base args ds gs before hval0 hW hcnd _
  have hval : ∀ (j : Nat) t v, Tryz.f9.params[j]? = some t → args[j]? = some v → Value.okWide Tryz.prog W .any base t v := hval0
  have hW' := hW
  obtain ⟨p, q, hA0, hV, rfl, hfz, hnd⟩ := hW
  have hA : DataW.TrodAll enc Tryz.prog W 0 (fun _ => true) true Tryz.f9.params.toList args.toList ds p := hA0
  rw [Tryz.params9] at hA hval
  obtain ⟨v0, vs0, d0, ds0, p0, q0, hargs, rfl, rfl, h0, r0⟩ := trodAll_cons hA
  obtain ⟨rfl, rfl, rfl⟩ := trodAll_nil r0
  obtain rfl : args = #[v0] := by cases args; simp_all
  obtain ⟨rfl, rfl⟩ := trodVars_none hV
  obtain ⟨a0, len0, cap0, rfl⟩ := okWide_slice Tryz.underlying44 (hval 0 44 v0 rfl rfl)
  have k0 := h0
  have lt0 : ∀ x ∈ p0, x.block < W.heap.size := by obtain ⟨m, hm⟩ := k0; exact DataW.trod_lt m _ _ _ hm
  obtain ⟨z0, w0⟩ : ∃ zs, IsRow .i64 W a0 len0 cap0 zs := by
    obtain ⟨fuel, hf⟩ := h0
    rcases open_ints Tryz.underlying44 Tryz.underlying3 (by kernel_rfl) hf with ⟨hcs, _⟩ | ⟨x, l, c, zs, hcs, _, hl, hm, hz, _, hcell, hwz⟩
    · simp [Value.cells] at hcs
      obtain ⟨rfl, rfl, rfl⟩ := hcs
      exact ⟨[], .inl ⟨rfl, rfl, rfl, rfl⟩⟩
    · simp [Value.cells] at hcs
      obtain ⟨rfl, rfl, rfl⟩ := hcs
      exact ⟨zs, .inr ⟨_, rfl, hl, hm, by simpa using hz, hcell, hwz⟩⟩
  clear hA0 hval0
  refine (walk W a0 len0 cap0 z0 w0).mono fun e W' ⟨he, hk⟩ => ?_
  subst he
  have bel := Keep.below hk
  exact ⟨_, rfl, _, _, _, [], _, [], hW', trodAll_mk1 (shut_bool Tryz.underlying4 _), (trodAll_cons_mk (Below.trod laidOut (by kernel_rfl) (of_decide_eq_true (by kernel_rfl)) k0 bel lt0) trodAll_mk0), rfl, bel.frame _, fun h => by cases h⟩

theorem over : Rows.sessBindRow.holds Tryz.pinned (OpenSpec.ofChange Rows.sessBindSpec) :=
  OpenClaim.holds_of_wide 9 Tryz.f9 rfl rfl rfl rfl rfl rfl rfl ⟨rfl, rfl, rfl, rfl, rfl⟩ rfl rfl rfl rfl rfl (by kernel_rfl) Tryz.func9 (by kernel_rfl)
    (of_decide_eq_true (by kernel_rfl)) (by unfold Func.isWrapper; rw [if_neg (of_decide_eq_false (by kernel_rfl))]; exact ⟨rfl, rfl⟩)
    (fun os started H enc _ => lifted os started H enc)

/-- The statement. -/
theorem proved : Rows.SessBindSaid := over
#print axioms proved
end Go.Proofs.YtdbgplnjppaimaaGreat.sessBind
