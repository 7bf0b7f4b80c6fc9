/- NetOrder: the law returns true and changes nothing that was there. No conditions. -/
import Derived.Test.YtlabhbjampkhpaaGreatPks15
import Derived.Deep.CutRange
import Derived.Test.YtlabhbjampkhpaaGreatRows
import Derived.WalkKit
import Derived.ProofKit
import Derived.OpenShut
import Derived.ShutString
import Derived.ChangeOld
import Derived.Below
namespace Go.Proofs.YtlabhbjampkhpaaGreat.netOrder
open Go Go.ChangeShapes Go.WideShapes Go.ChangeAt Go.RowKit
open Go.ChangeMaps (open_string shut_string)

theorem own : ownKnob Tryz.prog.godebug = none := by kernel_rfl
theorem laidOut : laidOutB Tryz.prog = true := by kernel_rfl

open Go.Proofs Go.RowKit
set_option maxRecDepth 40000 in
theorem open_arg0 {H : Type} {enc : TypeId × Value → H} {a : Option Addr} {len cap : Nat} {d : DataW H} {p : List MemPlace} (W : World) (_base : Nat)
    (h : DataW.Trod enc Tryz.prog W 0 (fun _ => true) true 38 (.slice a len cap) d p) : ∃ z, IsPks W a len cap z := open_pks h
/-- Two nets, made behind w. -/
def N2 (w wr : World) (na nb : Nat) (pa pb : List PackV) : Prop := ∃ F G, NetW wr F na pa ∧ NetW wr G nb pb ∧ (∀ k, F k → ¬ G k) ∧ (∀ k, F k → w.heap.size ≤ k) ∧ (∀ k, G k → w.heap.size ≤ k) ∧ Keep NoF w wr
theorem netW_lt {w : World} {F : Nat → Prop} {nb : Nat} {ps : List PackV} (h : NetW w F nb ps) : ∀ k, F k → k < w.heap.size := by
  obtain ⟨b, v, l, h⟩ := h
  exact h.lt
theorem N2.symm {w wr : World} {na nb : Nat} {pa pb : List PackV} (h : N2 w wr na nb pa pb) : N2 w wr nb na pb pa := by
  obtain ⟨F, G, h1, h2, h3, h4, h5, h6⟩ := h
  exact ⟨G, F, h2, h1, fun k hg hf => h3 k hf hg, h5, h4, h6⟩
theorem N2.world {w wr : World} {na nb : Nat} {pa pb : List PackV} (h : N2 w wr na nb pa pb) : Keep NoF w wr := by
  obtain ⟨F, G, h1, h2, h3, h4, h5, h6⟩ := h
  exact h6
theorem N2.keep {w wr wc : World} {na nb : Nat} {pa pb : List PackV} (h : N2 w wr na nb pa pb) (hk : Keep NoF wr wc) : N2 w wc na nb pa pb := by
  obtain ⟨F, G, h1, h2, h3, h4, h5, h6⟩ := h
  exact ⟨F, G, h1.keep hk (fun _ _ f => f), h2.keep hk (fun _ _ f => f), h3, h4, h5, h6.trans' hk⟩
theorem n2_send {w wr : World} {na nb : Nat} {pa pb : List PackV} (p : PackV) (h : N2 w wr na nb pa pb) (hp : GoodP p) (hl : pa.length < 400) :
    Calls Tryz.prog 21 #[.pointer (some ⟨na, 0, none⟩), packVal p] wr fun e w' => e = .returned (.bool true) ∧ N2 w w' na nb (insP p pa) pb := by
  obtain ⟨F, G, h1, h2, h3, h4, h5, h6⟩ := h
  refine (send_any F na p pa wr h1 hp.1).mono ?_
  rintro e w' ⟨rfl, h7, h8⟩
  have hs : sentB p pa = true := by unfold sentB; rw [hp.2]; simp; omega
  have hs2 : sendP p pa = insP p pa := by unfold sendP; rw [hs]; rfl
  rw [hs2] at h7
  refine ⟨by rw [hs], Wid F wr w', G, h7, h2.keep h8 (fun k hg hf => h3 k hf hg), ?_, fun k hk => hk.elim (h4 k) (fun e => Nat.le_trans h6.size e.1), h5, h6.trans h8 (fun _ _ f => f) (fun k hk f => by have := h4 k f; omega)⟩
  rintro k (hf | hf) hg
  · exact h3 k hf hg
  · have := netW_lt h2 k hg; omega
theorem n2_look {w wr : World} {na nb : Nat} {pa pb : List PackV} (i : Int) (h : N2 w wr na nb pa pb) (hi : -9223372036854775808 ≤ i ∧ i ≤ 9223372036854775807) :
    Calls Tryz.prog 24 #[.pointer (some ⟨na, 0, none⟩), .int .i64 i] wr fun e w' => e = .returned (.tuple #[packVal (lookP pa i), .bool (inP pa i)]) ∧ Keep NoF wr w' := by
  obtain ⟨F, G, h1, _⟩ := h
  exact look_any F na pa i wr h1 hi
theorem n2_new {w wr : World} {na : Nat} {pa : List PackV} (h : NS w wr na pa) : Calls Tryz.prog 20 #[] wr fun e w' => ∃ nb, e = .returned (.pointer (some ⟨nb, 0, none⟩)) ∧ N2 w w' na nb pa [] := by
  obtain ⟨F, h1, h2, h3⟩ := h
  refine (netnew_any wr).mono ?_
  rintro e w' ⟨nb, G, rfl, h4, h5, h6⟩
  exact ⟨nb, rfl, F, G, h1.keep h5 (fun _ _ f => f), h4, fun k hf hg => by have := netW_lt h1 k hf; have := h6 k hg; omega, h2, fun k hg => Nat.le_trans h3.size (h6 k hg), h3.trans' h5⟩
def leP (p q : PackV) : Prop := keyS (encP p) ≤ keyS (encP q)
theorem dw_head {α : Type} (p : α → Bool) : ∀ (l : List α) (x : α) (r : List α), l.dropWhile p = x :: r → p x = false
  | [], x, r, h => by cases h
  | a :: l, x, r, h => by
    rw [List.dropWhile_cons] at h
    cases hp : p a with
    | true => rw [hp] at h; exact dw_head p l x r h
    | false => rw [hp] at h; injection h with h1 h2; rw [← h1]; exact hp
theorem insP_sorted {p : PackV} {ps : List PackV} (h : ps.Pairwise leP) : (insP p ps).Pairwise leP := by
  have hsp : ps = ps.takeWhile (fun q => decide (keyS (encP q) ≤ keyS (encP p))) ++ ps.dropWhile (fun q => decide (keyS (encP q) ≤ keyS (encP p))) := List.takeWhile_append_dropWhile.symm
  have h2 := h
  rw [hsp] at h2
  obtain ⟨ha, hb, hab⟩ := List.pairwise_append.1 h2
  have hlo : ∀ x ∈ ps.takeWhile (fun q => decide (keyS (encP q) ≤ keyS (encP p))), leP x p := fun x hx => by
    have := List.all_takeWhile (p := fun q => decide (keyS (encP q) ≤ keyS (encP p))) (l := ps)
    have := List.all_eq_true.1 this x hx
    have h3 : keyS (encP x) ≤ keyS (encP p) := of_decide_eq_true this
    exact h3
  have hhi : ∀ x ∈ ps.dropWhile (fun q => decide (keyS (encP q) ≤ keyS (encP p))), leP p x := fun x hx => by
    generalize hd : ps.dropWhile (fun q => decide (keyS (encP q) ≤ keyS (encP p))) = D at hx hb
    cases D with
    | nil => cases hx
    | cons y D =>
      have hy : ¬ (keyS (encP y) ≤ keyS (encP p)) := by
        have := dw_head _ _ _ _ hd
        simpa using this
      rcases List.mem_cons.1 hx with rfl | hx
      · unfold leP; omega
      · have := (List.pairwise_cons.1 hb).1 x hx
        unfold leP at this ⊢; omega
  unfold insP
  refine List.pairwise_append.2 ⟨ha, List.pairwise_cons.2 ⟨hhi, hb⟩, fun a h1 b h2 => ?_⟩
  rcases List.mem_cons.1 h2 with rfl | h2
  · exact hlo a h1
  · exact hab a h1 b h2
theorem sorted_uniq {ps qs : List PackV} (h1 : ps.Pairwise leP) (h2 : qs.Pairwise leP) (hp : ps.Perm qs) (hg : ∀ p ∈ ps, GoodP p) : ps = qs := by
  refine List.Perm.eq_of_pairwise (fun a b ha hb h3 h4 => ?_) h1 h2 hp
  have hb2 := hg b (hp.mem_iff.2 hb)
  have ha2 := hg a ha
  exact encP_inj ha2 hb2 (keyS_inj (encP_ok a) (encP_ok b) (by unfold leP at h3 h4; omega))
theorem rot_perm (n s : Nat) (hs : s < n) : ((List.range n).map fun j => (j + s) % n).Perm (List.range n) := by
  refine (List.perm_ext_iff_of_nodup ?_ List.nodup_range).2 fun x => ?_
  · rw [List.nodup_iff_pairwise_ne, List.pairwise_map]
    refine List.Pairwise.imp_of_mem ?_ List.nodup_range
    intro a b ha hb hab e
    have ha2 := List.mem_range.1 ha
    have hb2 := List.mem_range.1 hb
    have h1 : (a + s) % n = if a + s < n then a + s else a + s - n := by
      split
      · exact Nat.mod_eq_of_lt (by assumption)
      · rw [Nat.mod_eq_sub_mod (by omega), Nat.mod_eq_of_lt (by omega)]
    have h2 : (b + s) % n = if b + s < n then b + s else b + s - n := by
      split
      · exact Nat.mod_eq_of_lt (by assumption)
      · rw [Nat.mod_eq_sub_mod (by omega), Nat.mod_eq_of_lt (by omega)]
    rw [h1, h2] at e
    split at e <;> split at e <;> omega
  · rw [List.mem_map, List.mem_range]
    constructor
    · rintro ⟨j, _, rfl⟩; exact Nat.mod_lt _ (by omega)
    · intro hx
      refine ⟨(x + n - s) % n, List.mem_range.2 (Nat.mod_lt _ (by omega)), ?_⟩
      rw [Nat.mod_add_mod, show x + n - s + s = x + n by omega, Nat.add_mod_right, Nat.mod_eq_of_lt hx]
def rotL (l : List PackV) (s i : Nat) : List PackV := (List.range i).map fun j => l.getD ((j + s) % l.length) default
theorem rotL_succ (l : List PackV) (s i : Nat) : rotL l s (i + 1) = rotL l s i ++ [l.getD ((i + s) % l.length) default] := by
  unfold rotL; rw [List.range_succ, List.map_append]; rfl
theorem rotL_all (l : List PackV) (s : Nat) (hs : l ≠ [] → s < l.length) : (rotL l s l.length).Perm l := by
  by_cases h : l = []
  · subst h; exact List.Perm.refl _
  · have h1 : rotL l s l.length = ((List.range l.length).map fun j => (j + s) % l.length).map fun j => l.getD j default := by unfold rotL; rw [List.map_map]; rfl
    rw [h1]
    refine ((rot_perm l.length s (hs h)).map _).trans ?_
    have h2 : (List.range l.length).map (fun j => l.getD j default) = l := by
      refine List.ext_getElem (by simp) fun i h1 h2 => ?_
      simp [List.getD_eq_getElem?_getD, List.getElem?_eq_getElem h2]
    rw [h2]
theorem tmod_bounds (a m : Int) (hm : 0 < m) : -m < a.tmod m ∧ a.tmod m < m := by
  by_cases h : 0 ≤ a
  · rw [Int.tmod_eq_emod_of_nonneg h]
    have := Int.emod_nonneg a (b := m) (by omega)
    have := Int.emod_lt_of_pos a hm
    omega
  · have e : a = -(-a) := by omega
    rw [e, Int.neg_tmod, Int.tmod_eq_emod_of_nonneg (by omega)]
    have := Int.emod_nonneg (-a) (b := m) (by omega)
    have := Int.emod_lt_of_pos (-a) hm
    omega
set_option maxHeartbeats 16000000 in
set_option maxRecDepth 8000 in
theorem walk (w : World) (a0 : Option Addr) (len0 cap0 : Nat) (z0 : List PackV) (h0 : IsPks w a0 len0 cap0 z0) (turn : Int) (ht0 : (Lit.int .i64 turn).wf = true) :
    Calls Tryz.prog 6 #[.slice a0 len0 cap0, .int .i64 turn] w fun e w' => e = .returned (.bool true) ∧ Keep NoF w w' := by
  obtain ⟨hl0, hok, s0⟩ := h0
  have hb2 := bounds_i64 ht0
  have c0 := s0.1; have c0m := s0.2.1
  rw [hl0] at c0
  unfold maxLen at c0m
  have S0 := Lib.hid s0; have HL0 := Lib.hid hl0; have HOK := Lib.hid hok
  clear s0 hl0 hok ht0
  go_enter Tryz.func6, Tryz.ntmps6
  go_wp2_with fail
  refine (begun15_any w).mono ?_
  rintro e w1 ⟨rfl, hk⟩
  have K1 := Lib.hid hk; clear hk
  go_wp2_with fail
  go_loopw [6, 7] (fun lv iv wr => ∃ (i M : Nat) (al : Option Addr) (cl : Nat) (l : List PackV), i ≤ len0 ∧ i ≤ 25 ∧ M ≤ i ∧ lv = .slice al M cl ∧ iv = .int .i64 i ∧ l.length = M ∧ (∀ p ∈ l, GoodP p) ∧ wr.ownsRow 0 23 6 (.slice al M cl) M (l.flatMap pkL) ∧ (∀ g, (Value.slice al M cl).ownBlock = some g → w.heap.size ≤ g) ∧ Keep NoF w wr) (fun _ iv _ => len0 - (intOf iv).toNat)
  case atStart => exact ⟨0, 0, none, 0, [], Nat.zero_le _, Nat.zero_le _, Nat.le_refl _, rfl, rfl, rfl, by simp, World.ownsRow_nil _ _ _ _, nofun, K1.out⟩
  case round =>
    obtain ⟨i, M, al, cl, l, hi, hi25, hMi, rfl, rfl, hl, hgood, hO, hnew, hk⟩ := hrel
    have HO := Lib.hid hO; have HL := Lib.hid hl; have HG := Lib.hid hgood; have HNW := Lib.hid hnew; have KR := Lib.hid hk
    clear hl hgood hO hnew hk
    by_cases hlt : i < len0 ∧ i < 25
    · obtain ⟨hlt, hlt25⟩ := hlt
      have hlt2 : (i : Int) < len0 := by omega
      have hlt3 : (i : Int) < 25 := by omega
      have hd2 : decide ((i : Int) < len0) = true := by simp [hlt2]
      have hd3 : decide ((i : Int) < 25) = true := by simp [hlt3]
      obtain ⟨g0, o0, rfl, b0, b1, b2, b3, b4, b5⟩ := sl6 (S0.out.keep KR.out (fun _ _ f => f)) i (by rw [HL0.out]; exact hlt)
      have hPok := HOK.out _ (List.getElem_mem (by rw [HL0.out]; exact hlt : i < z0.length))
      generalize z0[i]'(by rw [HL0.out]; exact hlt) = P at b0 b1 b2 b3 b4 b5 hPok
      obtain ⟨pb, hpb⟩ : ∃ pb, packB P = pb := ⟨_, rfl⟩
      have hrp := fun W => rpacket_any P W hPok
      rw [hpb] at hrp
      have HPB := Lib.hid hpb
      obtain ⟨k, f, t, d, n, y⟩ := P
      have HPOK := Lib.hid hPok
      unfold packVal at hrp
      dsimp only at b0 b1 b2 b3 b4 b5 hrp
      have HRP := Lib.hid hrp
      clear hrp hPok hpb
      have B0 := Lib.hid b0; have B1 := Lib.hid b1; have B2 := Lib.hid b2; have B3 := Lib.hid b3; have B4 := Lib.hid b4; have B5 := Lib.hid b5
      cases pb
      · go_wp2_with fail
        refine (HRP.out wr).mono ?_
        rintro e w3 ⟨rfl, hk3⟩
        have K3 := Lib.hid hk3
        clear hk3 b0 b1 b2 b3 b4 b5
        go_wp2_with fail
        go_roundw
        case rel => exact ⟨i + 1, M, al, cl, l, by omega, by omega, by omega, rfl, by go_num, HL.out, HG.out, row_keep HO.out K3.out (fun _ _ f => f), HNW.out, KR.out.trans' K3.out⟩
        case measure => simp [intOf]; omega
      · go_wp2_with fail
        refine (HRP.out wr).mono ?_
        rintro e w3 ⟨rfl, hk3⟩
        have K3 := Lib.hid hk3
        clear b0 b1 b2 b3 b4 b5
        have b0 := hk3.cell' B0.out (fun f => f); have b1 := hk3.cell' B1.out (fun f => f); have b2 := hk3.cell' B2.out (fun f => f)
        have b3 := hk3.cell' B3.out (fun f => f); have b4 := hk3.cell' B4.out (fun f => f); have b5 := hk3.cell' B5.out (fun f => f)
        have HO3 : Hid (w3.ownsRow 0 23 6 (.slice al M cl) M (l.flatMap pkL)) := Lib.hid (row_keep HO.out hk3 (fun _ _ f => f))
        clear hk3
        go_wp2_with (at_builtin; refine wpList_app 38 38 23 (.agg #[.int .i64 0, .int .i64 0, .int .i64 0, .int .i64 0, .int .i64 0, .bool false]) 6 48 Tryz.underlying38 infoPk rfl (by decide) (by decide) rfl rfl rfl rfl (HO3.out.alloc _) (src_oneK (x := ⟨k, f, t, d, n, y⟩) pkL_one pkL_len Tryz.underlying38 (heap_new _ _) rfl 1) (by omega) ?_)
        intro al2 cl2 w4 hown hgr hfr
        have hk4 : Keep NoF w w4 := ((KR.out.trans' K3.out).alloc _).grown hgr (fun k hk e => by have := HNW.out k e; omega)
        have hn4 : ∀ g, (Value.slice al2 (M + 1) cl2).ownBlock = some g → w.heap.size ≤ g := fun g hg => by
          rcases hfr with f | f
          · rw [f] at hg; exact HNW.out g hg
          · rw [f] at hg; injection hg with hg; have h1 := (KR.out.trans' K3.out).size; omega
        have HO4 : Hid (w4.ownsRow 0 23 6 (.slice al2 (M + 1) cl2) (M + 1) ((l ++ [(⟨k, f, t, d, n, y⟩ : PackV)]).flatMap pkL)) := Lib.hid (by rw [List.flatMap_append]; simpa using hown)
        have HN4 := Lib.hid hn4; have K4 := Lib.hid hk4
        clear hown hgr hfr hk4 hn4 b0 b1 b2 b3 b4 b5
        go_wp2_with fail
        go_roundw
        case rel => exact ⟨i + 1, M + 1, al2, cl2, l ++ [⟨k, f, t, d, n, y⟩], by omega, by omega, by omega, rfl, by go_num, by simp [HL.out], fun p hp => by rcases List.mem_append.1 hp with h | h; exact HG.out p h; (rw [List.mem_singleton] at h; rw [h]; exact ⟨HPOK.out, HPB.out⟩), HO4.out, HN4.out, K4.out⟩
        case measure => simp [intOf]; omega
    · obtain ⟨W1, rfl⟩ : ∃ W, W = wr := ⟨_, rfl⟩
      have hcase : (decide (i < len0) = false) ∨ (decide ((i : Int) < len0) = true ∧ decide ((i : Int) < 25) = false) := by
        by_cases h1 : (i : Int) < len0
        · right; exact ⟨decide_eq_true h1, decide_eq_false (by omega)⟩
        · left; exact decide_eq_false (by omega)
      have hM25 : M ≤ 25 := by omega
      clear hlt hi hi25 hMi
      have hcap := row_cap HO.out
      obtain ⟨hc1, hc2⟩ := hcap
      unfold maxLen at hc2
      obtain ⟨t1, ht1⟩ : ∃ t1, turn.tmod (M : Int) = t1 := ⟨_, rfl⟩
      obtain ⟨s, HSN⟩ : ∃ s : Nat, Hid (M ≠ 0 → (t1 + M).tmod (M : Int) = s ∧ s < M ∧ -(M : Int) < t1 ∧ t1 < M) := by
        refine ⟨((t1 + M).tmod (M : Int)).toNat, Lib.hid fun hz => ?_⟩
        have htb1 := tmod_bounds turn M (by omega)
        rw [ht1] at htb1
        have h1 := Int.emod_lt_of_pos (t1 + M) (b := M) (by omega)
        have h2 := Int.emod_nonneg (t1 + M) (b := M) (by omega)
        rw [Int.tmod_eq_emod_of_nonneg (by omega)]
        omega
      have HT1 := Lib.hid ht1
      clear ht1
      rcases hcase with hd1 | ⟨hd1, hd2⟩
      rotate_left
      have hn2 : ¬ (i : Int) < 25 := of_decide_eq_false hd2
      have hn1 : (i : Int) < len0 := of_decide_eq_true hd1
      all_goals
        go_wp2_with fail
        refine (ns_new W1 W1 (Keep.refl _ _)).mono ?_
        rintro e w5 ⟨na, rfl, hA⟩
        have HA := Lib.hid hA
        clear hA
        (try clear hn1)
        (try clear hn2)
        (try clear hd1)
        (try clear hd2)
        go_wp2_with fail
        refine (n2_new HA.out).mono ?_
        rintro e w6 ⟨nb, rfl, hN⟩
        have HN := Lib.hid hN
        clear hN
        go_wp2_with fail
        go_loopw [10] (fun iv wr => ∃ (i : Nat) (pa pb : List PackV), i ≤ M ∧ iv = .int .i64 i ∧ N2 W1 wr na nb pa pb ∧ pa.Perm (l.take i) ∧ pa.Pairwise leP ∧ pb.Perm (rotL l s i) ∧ pb.Pairwise leP) (fun iv _ => M - (intOf iv).toNat)
        case atStart => exact ⟨0, [], [], Nat.zero_le _, rfl, HN.out, by simp, List.Pairwise.nil, by simp [rotL], List.Pairwise.nil⟩
        case round =>
          obtain ⟨i, pa, pb, hi, rfl, hN, hpa, hsa, hpb, hsb⟩ := hrel
          have HNi := Lib.hid hN; have HPA := Lib.hid hpa; have HSA := Lib.hid hsa; have HPBB := Lib.hid hpb; have HSB := Lib.hid hsb
          clear hN hpa hsa hpb hsb
          by_cases hlt : i < M
          · have hlt2 : (i : Int) < M := by omega
            obtain ⟨hs, hsn, htb1, htb2⟩ := HSN.out (by omega)
            have ht1 := HT1.out
            have hn0 : ¬ M = 0 := by omega
            have hil3 : decide (M ≤ i) = false := by simp; omega
            obtain ⟨kk, hkk⟩ : ∃ kk, (i + s) % M = kk := ⟨_, rfl⟩
            have hkn : kk < M := by rw [← hkk]; exact Nat.mod_lt _ (by omega)
            have hk3 : ((i : Int) + s).tmod (M : Int) = kk := by
              rw [Int.tmod_eq_emod_of_nonneg (by omega), ← hkk]; norm_cast
            have hkl2 : (kk : Int) < M := by omega
            have hkl3 : decide (M ≤ kk) = false := by simp; omega
            have HKK := Lib.hid hkk
            clear hkk
            have hrow : wr.ownsRow 0 23 6 (.slice al M cl) M (l.flatMap pkL) := row_keep HO.out HNi.out.world (fun _ _ f => f)
            have HSL := Lib.hid (rowK_sl pkL_len hrow HL.out)
            clear hrow
            obtain ⟨g0, o0, rfl, b0, b1, b2, b3, b4, b5⟩ := sl6 HSL.out i (by rw [HL.out]; exact hlt)
            have hPg := HG.out _ (List.getElem_mem (by rw [HL.out]; exact hlt : i < l.length))
            have HTK : Hid (l.take (i + 1) = l.take i ++ [l[i]'(by rw [HL.out]; exact hlt)]) := Lib.hid (List.take_succ_eq_append_getElem (by rw [HL.out]; exact hlt))
            have hQg := HG.out _ (List.getElem_mem (by rw [HL.out]; exact hkn : kk < l.length))
            have HRT : Hid (rotL l s (i + 1) = rotL l s i ++ [l[kk]'(by rw [HL.out]; exact hkn)]) := Lib.hid (by
              have e : (i + s) % l.length = kk := by rw [HL.out]; exact HKK.out
              rw [rotL_succ, e, List.getD_eq_getElem?_getD, List.getElem?_eq_getElem (by rw [HL.out]; exact hkn)]; rfl)
            obtain ⟨Q, hQ⟩ : ∃ Q, l[kk]'(by rw [HL.out]; exact hkn) = Q := ⟨_, rfl⟩
            rw [hQ] at hQg HRT
            have HQ := Lib.hid hQ
            clear hQ
            generalize l[i]'(by rw [HL.out]; exact hlt) = P at b0 b1 b2 b3 b4 b5 hPg HTK
            have hla : pa.length < 400 := by rw [HPA.out.length_eq, List.length_take]; omega
            have hlb : pb.length < 400 := by rw [HPBB.out.length_eq]; simp [rotL]; omega
            have hsd := n2_send P HNi.out hPg hla
            have hsd2 := fun W (hW : N2 W1 W na nb (insP P pa) pb) => n2_send Q hW.symm hQg hlb
            obtain ⟨k, f, t, d, n, y⟩ := P
            obtain ⟨qk, qf, qt, qd, qn, qy⟩ := Q
            unfold packVal at hsd hsd2
            dsimp only at b0 b1 b2 b3 b4 b5 hsd hsd2
            have HSD := Lib.hid hsd; have HSD2 := Lib.hid hsd2
            clear hsd hsd2 hPg hQg hla hlb
            go_wp2_with fail
            refine HSD.out.mono ?_
            rintro e w7 ⟨rfl, hN⟩
            have HN7 := Lib.hid hN
            have HK7 : Hid (Keep NoF W1 w7) := Lib.hid hN.world
            clear hN b0 b1 b2 b3 b4 b5
            have hrow : w7.ownsRow 0 23 6 (.slice (some ⟨g0, o0, none⟩) M cl) M (l.flatMap pkL) := row_keep HO.out HK7.out (fun _ _ f => f)
            obtain ⟨_, _, e0, cc⟩ := sl6 (rowK_sl pkL_len hrow HL.out) kk (by rw [HL.out]; exact hkn)
            rw [HQ.out] at cc
            injection e0 with e0
            injection e0 with e1 e2
            subst e1 e2
            obtain ⟨b0, b1, b2, b3, b4, b5⟩ := cc
            dsimp only at b0 b1 b2 b3 b4 b5
            clear hrow
            go_wp2_with fail
            refine (HSD2.out w7 HN7.out).mono ?_
            rintro e w8 ⟨rfl, hN⟩
            have HN8 := Lib.hid hN.symm
            clear hN b0 b1 b2 b3 b4 b5
            go_wp2_with fail
            go_roundw
            case rel => exact ⟨i + 1, _, _, by omega, by go_num, HN8.out, by rw [HTK.out]; exact (insP_perm _ pa).trans ((List.Perm.cons _ HPA.out).trans (List.perm_append_singleton _ _).symm), insP_sorted HSA.out, by rw [HRT.out]; exact (insP_perm _ pb).trans ((List.Perm.cons _ HPBB.out).trans (List.perm_append_singleton _ _).symm), insP_sorted HSB.out⟩
            case measure => simp [intOf]; omega
          · have hlt2 : ¬ (i : Int) < M := by omega
            obtain rfl : i = M := by omega
            have hlen : pa.length = i := by rw [HPA.out.length_eq, List.length_take, HL.out]; omega
            have hpp : pa = pb := sorted_uniq HSA.out HSB.out (HPA.out.trans (by rw [List.take_of_length_le (by rw [HL.out]; omega)]; exact ((HL.out ▸ rotL_all l s (fun hne => by rw [HL.out]; exact (HSN.out (by have := HL.out; intro e; subst e; exact hne (List.eq_nil_of_length_eq_zero this))).2.1) : (rotL l s i).Perm l).trans (List.Perm.refl _)).symm) |>.trans HPBB.out.symm) (fun p hp => HG.out p (List.mem_of_mem_take (HPA.out.mem_iff.1 hp)))
            subst hpp
            obtain ⟨wq, rfl⟩ : ∃ W, W = wr := ⟨_, rfl⟩
            have HPL := Lib.hid hlen
            clear hlen hi
            go_wp2_with fail
            go_loopw [11] (fun iv wr => ∃ j : Nat, j ≤ i + 1 ∧ iv = .int .i64 j ∧ N2 W1 wr na nb pa pa) (fun iv _ => i + 1 - (intOf iv).toNat)
            case atStart => exact ⟨0, Nat.zero_le _, rfl, HNi.out⟩
            case round =>
              obtain ⟨j, hj, rfl, hN⟩ := hrel
              have HNj := Lib.hid hN
              clear hN hlt2
              by_cases hle : j ≤ i
              · have hle2 : (j : Int) ≤ i := by omega
                have hla := fun W (hW : N2 W1 W na nb pa pa) => n2_look (j : Int) hW (by omega)
                have hlb := fun W (hW : N2 W1 W na nb pa pa) => n2_look (j : Int) hW.symm (by omega)
                obtain ⟨bl, hbl⟩ : ∃ b, inP pa j = b := ⟨_, rfl⟩
                have hib : decide ((j : Int) < i) = bl := by rw [← hbl]; unfold inP; rw [HPL.out]; simp
                rw [hbl] at hla hlb
                generalize lookP pa j = P at hla hlb
                obtain ⟨k, f, t, d, n, y⟩ := P
                unfold packVal at hla hlb
                dsimp only at hla hlb
                have HLA := Lib.hid hla; have HLB := Lib.hid hlb
                clear hla hlb hbl
                go_wp2_with fail
                refine (HLA.out wr HNj.out).mono ?_
                rintro e w5 ⟨rfl, hk5⟩
                have HS5 := Lib.hid (HNj.out.keep hk5)
                clear hk5
                obtain ⟨D, hhD⟩ : ∃ D, w5.heap.size = D := ⟨_, rfl⟩
                go_upto_region 20 with fail
                have hrD := heap_new w5 (.cells #[.int .i64 k, .int .i64 f, .int .i64 t, .int .i64 d, .int .i64 n, .bool y] 23 (0, 0))
                have hkD := keep_alloc w5 (.cells #[.int .i64 k, .int .i64 f, .int .i64 t, .int .i64 d, .int .i64 n, .bool y] 23 (0, 0))
                have hsD : (w5.alloc (.cells #[.int .i64 k, .int .i64 f, .int .i64 t, .int .i64 d, .int .i64 n, .bool y] 23 (0, 0))).heap.size = w5.heap.size + 1 := size_alloc _ _
                show Code.wp _ _ _ _ (w5.alloc (.cells #[.int .i64 k, .int .i64 f, .int .i64 t, .int .i64 d, .int .i64 n, .bool y] 23 (0, 0)))
                rw [hhD] at hrD hsD
                generalize w5.alloc (.cells #[.int .i64 k, .int .i64 f, .int .i64 t, .int .i64 d, .int .i64 n, .bool y] 23 (0, 0)) = W6 at hrD hkD hsD ⊢
                (try rw [hhD])
                have HCD : Hid (∀ W : World, W.heap[D]? = W6.heap[D]? → W.cell? ⟨D, 0, none⟩ = some (.int .i64 k) ∧ W.cell? ⟨D, 1, none⟩ = some (.int .i64 f) ∧ W.cell? ⟨D, 2, none⟩ = some (.int .i64 t) ∧ W.cell? ⟨D, 3, none⟩ = some (.int .i64 d) ∧ W.cell? ⟨D, 4, none⟩ = some (.int .i64 n) ∧ W.cell? ⟨D, 5, none⟩ = some (.bool y)) := Lib.hid fun W hW => by
                  have e := hW.trans hrD
                  refine ⟨?_, ?_, ?_, ?_, ?_, ?_⟩
                  all_goals (rw [cell_of_heap e]; rfl)
                have HKD := Lib.hid hkD; have HRD := Lib.hid hrD; have HLD : Hid (D < W6.heap.size ∧ w5.heap.size = D) := Lib.hid ⟨by omega, hhD⟩
                clear hrD hkD hsD hhD
                have HS6 := Lib.hid (HS5.out.keep HKD.out)
                go_wp2_with fail
                refine (HLB.out W6 HS6.out).mono ?_
                rintro e w7 ⟨rfl, hk7⟩
                have HD7 := Lib.hid (hk7.block D HLD.out.1 (fun f => f))
                have HS7 := Lib.hid (HS6.out.keep hk7)
                clear hk7
                obtain ⟨E, hhE⟩ : ∃ E, w7.heap.size = E := ⟨_, rfl⟩
                have hDE : D < w7.heap.size := lt_of_heap (HD7.out.trans HRD.out)
                have HDE := Lib.hid hDE
                clear hDE
                go_upto_region 21 with fail
                have hrE := heap_new w7 (.cells #[.int .i64 k, .int .i64 f, .int .i64 t, .int .i64 d, .int .i64 n, .bool y] 23 (0, 0))
                have hkE := keep_alloc w7 (.cells #[.int .i64 k, .int .i64 f, .int .i64 t, .int .i64 d, .int .i64 n, .bool y] 23 (0, 0))
                have hsE : (w7.alloc (.cells #[.int .i64 k, .int .i64 f, .int .i64 t, .int .i64 d, .int .i64 n, .bool y] 23 (0, 0))).heap.size = w7.heap.size + 1 := size_alloc _ _
                show Code.wp _ _ _ _ (w7.alloc (.cells #[.int .i64 k, .int .i64 f, .int .i64 t, .int .i64 d, .int .i64 n, .bool y] 23 (0, 0)))
                rw [hhE] at hrE hsE
                generalize w7.alloc (.cells #[.int .i64 k, .int .i64 f, .int .i64 t, .int .i64 d, .int .i64 n, .bool y] 23 (0, 0)) = W8 at hrE hkE hsE ⊢
                (try rw [hhE])
                have HCE : Hid (∀ W : World, W.heap[E]? = W8.heap[E]? → W.cell? ⟨E, 0, none⟩ = some (.int .i64 k) ∧ W.cell? ⟨E, 1, none⟩ = some (.int .i64 f) ∧ W.cell? ⟨E, 2, none⟩ = some (.int .i64 t) ∧ W.cell? ⟨E, 3, none⟩ = some (.int .i64 d) ∧ W.cell? ⟨E, 4, none⟩ = some (.int .i64 n) ∧ W.cell? ⟨E, 5, none⟩ = some (.bool y)) := Lib.hid fun W hW => by
                  have e := hW.trans hrE
                  refine ⟨?_, ?_, ?_, ?_, ?_, ?_⟩
                  all_goals (rw [cell_of_heap e]; rfl)
                have HKE := Lib.hid hkE; have HRE := Lib.hid hrE; have HLE : Hid (E < W8.heap.size ∧ w7.heap.size = E) := Lib.hid ⟨by omega, hhE⟩
                clear hrE hkE hsE hhE
                have HS8 := Lib.hid (HS7.out.keep HKE.out)
                obtain ⟨r0, r1, r2, r3, r4, r5⟩ := HCD.out W8 ((HKE.out.block D HDE.out (fun f => f)).trans HD7.out)
                obtain ⟨e0, e1, e2, e3, e4, e5⟩ := HCE.out W8 rfl
                by_cases hx0 : j < i
                · have hx0d : decide ((j : Int) < i) = true := by simp [hx0]
                  have hx1 : (j : Int) < i := by omega
                  obtain rfl : bl = true := by rw [← hib, hx0d]
                  clear hib
                  go_wp2_with fail
                  clear r0 r1 r2 r3 r4 r5 e0 e1 e2 e3 e4 e5
                  go_roundw
                  case rel => exact ⟨j + 1, by omega, by go_num, HS8.out⟩
                  case measure => simp [intOf]; omega
                · have hx0d : decide ((j : Int) < i) = false := by simp [hx0]
                  have hx0e : decide (j < i) = false := by simp [hx0]
                  have hx1 : ¬ (j : Int) < i := by omega
                  obtain rfl : bl = false := by rw [← hib, hx0d]
                  clear hib
                  go_wp2_with fail
                  clear r0 r1 r2 r3 r4 r5 e0 e1 e2 e3 e4 e5
                  go_roundw
                  case rel => exact ⟨j + 1, by omega, by go_num, HS8.out⟩
                  case measure => simp [intOf]; omega
              · have hle2 : ¬ (j : Int) ≤ i := by omega
                go_wp2_with fail
                go_ret
                exact ⟨rfl, KR.out.trans' HNj.out.world⟩

set_option linter.unusedVariables false
set_option maxRecDepth 100000 in
theorem lifted (os : Os) (started : os.Started) (H : Type) (enc : TypeId × Value → H) :
    ReturnsInHanded {} Tryz.checked os 6 .any (Rows.netOrderSpec.pre6 enc Tryz.prog Tryz.f6 Rows.netOrderRow.domain false) (Rows.netOrderSpec.post enc Tryz.prog Tryz.f6 false true false false) := by
  refine returnsInHanded_of_change (C := Tryz.checked) own started (by kernel_rfl) Tryz.func6
    (ChangeSpec.witness6 (enc := enc) (C := Tryz.checked) false ⟨#[], #[.slice none 0 0, .int .i64 0], []⟩ 8 (by kernel_rfl) (by kernel_rfl) (by kernel_rfl) (by kernel_rfl)) ?_
  intro W base args ds gs before hval0 hW hcnd _
  have hval : ∀ (j : Nat) t v, Tryz.f6.params[j]? = some t → args[j]? = some v → Value.okWide Tryz.prog W .any base t v := hval0
  have hW' := hW
  obtain ⟨p, q, hA0, hV, rfl, hfz, hnd⟩ := hW
  have hA : DataW.TrodAll enc Tryz.prog W 0 (fun _ => true) true Tryz.f6.params.toList args.toList ds p := hA0
  rw [Tryz.params6] at hA hval
  obtain ⟨v0, vs0, d0, ds0, p0, q0, hargs, rfl, rfl, h0, r0⟩ := trodAll_cons hA
  obtain ⟨v1, vs1, d1, ds1, p1, q1, rfl, rfl, rfl, h1, r1⟩ := trodAll_cons r0
  obtain ⟨rfl, rfl, rfl⟩ := trodAll_nil r1
  obtain rfl : args = #[v0, v1] := by cases args; simp_all
  obtain ⟨rfl, rfl⟩ := trodVars_none hV
  obtain ⟨a0, len0, cap0, rfl⟩ := okWide_slice Tryz.underlying38 (hval 0 38 v0 rfl rfl)
  have k0 := h0
  have lt0 : ∀ x ∈ p0, x.block < W.heap.size := by obtain ⟨m, hm⟩ := k0; exact DataW.trod_lt m _ _ _ hm
  obtain ⟨z0, w0⟩ := open_arg0 W base h0
  obtain ⟨a1, rfl, rfl, rfl, w1⟩ := open_int Tryz.underlying3 (hval 1 3 v1 rfl rfl) h1
  clear hA0 hval0
  refine (walk W a0 len0 cap0 z0 w0 a1 w1).mono fun e W' ⟨he, hk⟩ => ?_
  subst he
  have bel := Keep.below hk
  exact ⟨_, rfl, _, _, _, [], _, [], hW', trodAll_mk1 (shut_bool Tryz.underlying4 _), (trodAll_cons_mk (Below.trod laidOut (by kernel_rfl) (of_decide_eq_true (by kernel_rfl)) k0 bel lt0) (trodAll_cons_mk (shut_int Tryz.underlying3 w1) trodAll_mk0)), rfl, bel.frame _, fun h => by cases h⟩

theorem over : Rows.netOrderRow.holds Tryz.pinned (OpenSpec.ofChange Rows.netOrderSpec) :=
  OpenClaim.holds_of_wide 6 Tryz.f6 rfl rfl rfl rfl rfl rfl rfl ⟨rfl, rfl, rfl, rfl, rfl⟩ rfl rfl rfl rfl rfl (by kernel_rfl) Tryz.func6 (by kernel_rfl)
    (of_decide_eq_true (by kernel_rfl)) (by unfold Func.isWrapper; rw [if_neg (of_decide_eq_false (by kernel_rfl))]; exact ⟨rfl, rfl⟩)
    (fun os started H enc _ => lifted os started H enc)

/-- The statement. -/
theorem proved : Rows.NetOrderSaid := over
#print axioms proved
end Go.Proofs.YtlabhbjampkhpaaGreat.netOrder
