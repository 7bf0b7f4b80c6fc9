/- The law's own row of packets: one put in its place. -/
import Derived.Test.YtlabhbjampkhpaaGreatPks15
import Derived.Test.YtlabhbjampkhpaaGreatTells15
import Derived.Deep.CutRange
open Go Go.Proofs Go.RowKit
namespace Go.Proofs.YtlabhbjampkhpaaGreat
theorem conv_ownS {v : Value} {l : List UInt8} {w : World} {s : ByteArray} (h : OwnB w v l) (hs : bstr l = s) : (convert 24 9 v).run Tryz.prog w = .ok (.string s) w := by
  rw [← hs]; exact conv_own h
theorem le_key (x p : PackV) : (Op.bytesLess (encP x).toList (encP p).toList || (encP x).toList == (encP p).toList) = decide (keyS (encP x) ≤ keyS (encP p)) := by
  have hl : (encP x).data.toList.length = (encP p).data.toList.length := by rw [ba_length, ba_length, encP_size, encP_size]
  obtain ⟨h1, h2⟩ := less_key _ _ hl
  rw [ba_toList, ba_toList, h1]
  unfold keyS
  by_cases h : beK (encP x).data.toList = beK (encP p).data.toList
  · have e := h2.1 h
    rw [e]; simp
  · have e : ((encP x).data.toList == (encP p).data.toList) = false := by
      rw [beq_eq_false_iff_ne]; exact fun e => h (h2.2 e)
    rw [e, Bool.or_false, decide_eq_decide]; omega
/-- Does the k-th stand ahead of p's place? -/
def cB (l : List PackV) (p : PackV) (k : Nat) : Bool := match l[k]? with
  | some x => decide (keyS (encP x) ≤ keyS (encP p))
  | none => false
theorem cB_in {l : List PackV} {p : PackV} {k : Nat} (hk : k < l.length) : cB l p k = decide (keyS (encP l[k]) ≤ keyS (encP p)) := by
  unfold cB; rw [List.getElem?_eq_getElem hk]
theorem cB_out {l : List PackV} {p : PackV} {k : Nat} (hk : l.length ≤ k) : cB l p k = false := by
  unfold cB; rw [List.getElem?_eq_none hk]
theorem cB_lt {l : List PackV} {p : PackV} {k : Nat} (h : cB l p k = true) : k < l.length := by
  apply Classical.byContradiction
  intro e
  rw [cB_out (by omega)] at h; cases h
theorem ins_split {l : List PackV} {p : PackV} {k : Nat} (h1 : ∀ x ∈ l.take k, keyS (encP x) ≤ keyS (encP p)) (h2 : cB l p k = false) : insP p l = l.take k ++ p :: l.drop k := by
  unfold insP
  have e : l = l.take k ++ l.drop k := (List.take_append_drop k l).symm
  have h3 : (l.drop k).takeWhile (fun q => decide (keyS (encP q) ≤ keyS (encP p))) = [] ∧ (l.drop k).dropWhile (fun q => decide (keyS (encP q) ≤ keyS (encP p))) = l.drop k := by
    by_cases hk : k < l.length
    · rw [cB_in hk] at h2
      rw [List.drop_eq_getElem_cons hk, List.takeWhile_cons, List.dropWhile_cons, h2]
      exact ⟨rfl, rfl⟩
    · rw [List.drop_eq_nil_of_le (by omega)]; exact ⟨rfl, rfl⟩
  have h4 : l.takeWhile (fun q => decide (keyS (encP q) ≤ keyS (encP p))) = l.take k := by
    conv => lhs; rw [e]
    rw [List.takeWhile_append_of_pos (fun a ha => decide_eq_true (h1 a ha)), h3.1, List.append_nil]
  have h5 : l.dropWhile (fun q => decide (keyS (encP q) ≤ keyS (encP p))) = l.drop k := by
    conv => lhs; rw [e]
    rw [List.dropWhile_append_of_pos (fun a ha => decide_eq_true (h1 a ha)), h3.2]
  rw [h4, h5]
theorem take_le {l : List PackV} {p : PackV} {k : Nat} (h1 : ∀ x ∈ l.take k, keyS (encP x) ≤ keyS (encP p)) (h2 : cB l p k = true) : ∀ x ∈ l.take (k + 1), keyS (encP x) ≤ keyS (encP p) := by
  have hk := cB_lt h2
  rw [cB_in hk] at h2
  intro x hx
  rw [List.take_succ_eq_append_getElem hk] at hx
  rcases List.mem_append.1 hx with h | h
  · exact h1 x h
  · rw [List.mem_singleton] at h; subst h; exact of_decide_eq_true h2
set_option maxHeartbeats 16000000 in
set_option maxRecDepth 8000 in
theorem with_any (ao : Option Addr) (n cp : Nat) (l : List PackV) (P : PackV) (w : World) (h : w.ownsRow 0 23 6 (.slice ao n cp) n (l.flatMap pkL)) (hl : l.length = n) (hn : n ≤ 400) :
    Calls Tryz.prog 22 #[.slice ao n cp, packVal P] w fun e w' => ∃ ao2 cp2, e = .returned (.slice ao2 (n + 1) cp2) ∧ w'.ownsRow 0 23 6 (.slice ao2 (n + 1) cp2) (n + 1) ((insP P l).flatMap pkL) ∧ (∀ g, (Value.slice ao2 (n + 1) cp2).ownBlock = some g → w.heap.size ≤ g) ∧ Keep NoF w w' := by
  obtain ⟨hc1, hc2⟩ := row_cap h
  unfold maxLen at hc2
  have HO := Lib.hid h; have HL := Lib.hid hl
  clear h hl
  obtain ⟨sp, hsp⟩ : ∃ s, encP P = s := ⟨_, rfl⟩
  have hbp := fun W => bytes15_any P W
  generalize hlp : wireB P = lp at hbp
  have HSP : Hid (bstr lp = sp) := Lib.hid (by rw [← hlp]; exact hsp)
  have HEP := Lib.hid hsp
  obtain ⟨k, f, t, d, y_, y, hP⟩ : ∃ k f t d n y, P = (⟨k, f, t, d, n, y⟩ : PackV) := ⟨_, _, _, _, _, _, rfl⟩
  have HPV : Hid (packVal P = .agg #[.int .i64 k, .int .i64 f, .int .i64 t, .int .i64 d, .int .i64 y_, .bool y] ∧ pkL P = [.int .i64 k, .int .i64 f, .int .i64 t, .int .i64 d, .int .i64 y_, .bool y]) := by rw [hP]; exact Lib.hid ⟨rfl, rfl⟩
  rw [HPV.out.1] at hbp ⊢
  have HBP := Lib.hid hbp
  clear hbp hlp hsp hP
  go_enter Tryz.func22, Tryz.ntmps22
  obtain ⟨B, hhB⟩ : ∃ B, w.heap.size = B := ⟨_, rfl⟩
  go_upto_region 1 with fail
  have hrB := heap_new w (.cells #[.int .i64 k, .int .i64 f, .int .i64 t, .int .i64 d, .int .i64 y_, .bool y] 23 (0, 0))
  have hkB := keep_alloc w (.cells #[.int .i64 k, .int .i64 f, .int .i64 t, .int .i64 d, .int .i64 y_, .bool y] 23 (0, 0))
  have hsB : (w.alloc (.cells #[.int .i64 k, .int .i64 f, .int .i64 t, .int .i64 d, .int .i64 y_, .bool y] 23 (0, 0))).heap.size = w.heap.size + 1 := size_alloc _ _
  show Code.wp _ _ _ _ (w.alloc (.cells #[.int .i64 k, .int .i64 f, .int .i64 t, .int .i64 d, .int .i64 y_, .bool y] 23 (0, 0)))
  rw [hhB] at hrB hsB
  generalize w.alloc (.cells #[.int .i64 k, .int .i64 f, .int .i64 t, .int .i64 d, .int .i64 y_, .bool y] 23 (0, 0)) = W0 at hrB hkB hsB ⊢
  (try rw [hhB])
  have HCB0 : Hid (∀ W : World, W.heap[B]? = W0.heap[B]? → W.cell? ⟨B, 0, none⟩ = some (.int .i64 k) ∧ W.cell? ⟨B, 1, none⟩ = some (.int .i64 f) ∧ W.cell? ⟨B, 2, none⟩ = some (.int .i64 t) ∧ W.cell? ⟨B, 3, none⟩ = some (.int .i64 d) ∧ W.cell? ⟨B, 4, none⟩ = some (.int .i64 y_) ∧ W.cell? ⟨B, 5, none⟩ = some (.bool y)) := Lib.hid fun W hW => by
    have e := hW.trans hrB
    refine ⟨?_, ?_, ?_, ?_, ?_, ?_⟩
    all_goals (rw [cell_of_heap e]; rfl)
  have HKB := Lib.hid hkB; have HRB := Lib.hid hrB; have HLB : Hid (B < W0.heap.size ∧ w.heap.size = B) := Lib.hid ⟨by omega, hhB⟩
  clear hrB hkB hsB hhB
  go_wp2_with fail
  go_loopw [5] (fun kv wr => ∃ j : Nat, j ≤ n ∧ kv = .int .i64 j ∧ (∀ x ∈ l.take j, keyS (encP x) ≤ keyS (encP P)) ∧ Keep NoF W0 wr) (fun kv _ => n - (intOf kv).toNat)
  case atStart => exact ⟨0, Nat.zero_le _, rfl, by simp, Keep.refl _ _⟩
  case round =>
    obtain ⟨j, hj, rfl, htk, hk⟩ := hrel
    have HTK := Lib.hid htk; have KR := Lib.hid hk
    clear htk hk
    go_upto_region 2 with fail
    go_cut [21] from 6 to 21 (fun v wx => v = .bool (cB l P j) ∧ Keep NoF wr wx)
    case first =>
      by_cases hlt : j < n
      · have hlt2 : (j : Int) < n := by omega
        have hrow : wr.ownsRow 0 23 6 (.slice ao n cp) n (l.flatMap pkL) := row_keep HO.out (HKB.out.trans' KR.out) (fun _ _ f => f)
        obtain ⟨g0, o0, rfl, hx⟩ := sl6 (rowK_sl pkL_len hrow HL.out) j (by rw [HL.out]; exact hlt)
        clear hrow
        have hcb : cB l P j = decide (keyS (encP (l[j]'(by rw [HL.out]; exact hlt))) ≤ keyS sp) := by rw [cB_in (by rw [HL.out]; exact hlt), HEP.out]
        have hlek := le_key (l[j]'(by rw [HL.out]; exact hlt)) P
        rw [HEP.out] at hlek
        have hbx := fun W => bytes15_any (l[j]'(by rw [HL.out]; exact hlt)) W
        generalize l[j]'(by rw [HL.out]; exact hlt) = X at hx hcb hlek hbx
        generalize hlx : wireB X = lx at hbx
        obtain ⟨sx, hsx⟩ : ∃ s, encP X = s := ⟨_, rfl⟩
        have HSX : Hid (bstr lx = sx) := Lib.hid (by rw [← hlx]; exact hsx)
        rw [hsx] at hlek hcb
        obtain ⟨bl, hbl⟩ : ∃ b, decide (keyS sx ≤ keyS sp) = b := ⟨_, rfl⟩
        rw [hbl] at hlek hcb
        have HCB := Lib.hid hcb; have HLE := Lib.hid hlek
        obtain ⟨qk, qf, qt, qd, qn, qy⟩ := X
        unfold packVal at hbx
        dsimp only at hbx
        have HBX := Lib.hid hbx
        have HX : Hid (∀ W, Keep NoF wr W → W.cell? ⟨g0, o0 + j * 6, none⟩ = some (.int .i64 qk) ∧ W.cell? ⟨g0, o0 + j * 6 + 1, none⟩ = some (.int .i64 qf) ∧ W.cell? ⟨g0, o0 + j * 6 + 2, none⟩ = some (.int .i64 qt) ∧ W.cell? ⟨g0, o0 + j * 6 + 3, none⟩ = some (.int .i64 qd) ∧ W.cell? ⟨g0, o0 + j * 6 + 4, none⟩ = some (.int .i64 qn) ∧ W.cell? ⟨g0, o0 + j * 6 + 5, none⟩ = some (.bool qy)) := Lib.hid fun W hW => hx.keep hW (fun f => f)
        have HC : Hid (∀ W, Keep NoF wr W → (W.cell? ⟨g0, o0 + j * 6, none⟩ = some (.int .i64 qk) ∧ W.cell? ⟨g0, o0 + j * 6 + 1, none⟩ = some (.int .i64 qf) ∧ W.cell? ⟨g0, o0 + j * 6 + 2, none⟩ = some (.int .i64 qt) ∧ W.cell? ⟨g0, o0 + j * 6 + 3, none⟩ = some (.int .i64 qd) ∧ W.cell? ⟨g0, o0 + j * 6 + 4, none⟩ = some (.int .i64 qn) ∧ W.cell? ⟨g0, o0 + j * 6 + 5, none⟩ = some (.bool qy)) ∧ (W.cell? ⟨B, 0, none⟩ = some (.int .i64 k) ∧ W.cell? ⟨B, 1, none⟩ = some (.int .i64 f) ∧ W.cell? ⟨B, 2, none⟩ = some (.int .i64 t) ∧ W.cell? ⟨B, 3, none⟩ = some (.int .i64 d) ∧ W.cell? ⟨B, 4, none⟩ = some (.int .i64 y_) ∧ W.cell? ⟨B, 5, none⟩ = some (.bool y))) := Lib.hid fun W hW => ⟨HX.out W hW, HCB0.out W ((KR.out.trans' hW).block B HLB.out.1 (fun f => f))⟩
        clear hx hcb hlek hbx hlx hsx hbl HX
        have K0 := Lib.hid ((Keep.refl NoF wr).drew)
        refine wp_region_noPanic ?_
        refine wp_region_held_drew (S := (fun W' : World => (W'.cell? ⟨g0, o0 + j * 6, none⟩ = some (.int .i64 qk) ∧ W'.cell? ⟨g0, o0 + j * 6 + 1, none⟩ = some (.int .i64 qf) ∧ W'.cell? ⟨g0, o0 + j * 6 + 2, none⟩ = some (.int .i64 qt) ∧ W'.cell? ⟨g0, o0 + j * 6 + 3, none⟩ = some (.int .i64 qd) ∧ W'.cell? ⟨g0, o0 + j * 6 + 4, none⟩ = some (.int .i64 qn) ∧ W'.cell? ⟨g0, o0 + j * 6 + 5, none⟩ = some (.bool qy)) ∧ (W'.cell? ⟨B, 0, none⟩ = some (.int .i64 k) ∧ W'.cell? ⟨B, 1, none⟩ = some (.int .i64 f) ∧ W'.cell? ⟨B, 2, none⟩ = some (.int .i64 t) ∧ W'.cell? ⟨B, 3, none⟩ = some (.int .i64 d) ∧ W'.cell? ⟨B, 4, none⟩ = some (.int .i64 y_) ∧ W'.cell? ⟨B, 5, none⟩ = some (.bool y)))) (by kernel_rfl) (HC.out _ K0.out) (fun hHeld => ?_)
        refine wpAnyH_take (i := 0) (oi := ?o0) (v := ?v0) ?hi0 (by kernel_rfl) (by kernel_rfl) (by kernel_rfl) (fun _ _ _ h => h) (Or.inl ⟨?w0, ?y0⟩) (by assumption) ?r0
        case hi0 => (simp only [List.getElem?_toArray, List.getElem?_cons_zero]; try rfl)
        case w0 => rfl
        case y0 => (intro w hSw; (try dsimp only at hSw); go_simp; (try with_reducible rfl))
        (try simp only [Act.put, List.setIfInBounds_toArray, List.set_cons_zero, List.set_cons_succ])
        refine wpAnyH_take (i := 1) (oi := ?o1) (v := ?v1) ?hi1 (by kernel_rfl) (by kernel_rfl) (by kernel_rfl) (fun _ _ _ h => h) (Or.inl ⟨?w1, ?y1⟩) (by assumption) ?r1
        case hi1 => (simp only [List.getElem?_toArray, List.getElem?_cons_succ, List.getElem?_cons_zero]; try rfl)
        case w1 => rfl
        case y1 => (intro w hSw; (try dsimp only at hSw); go_simp; (try with_reducible rfl))
        (try simp only [Act.put, List.setIfInBounds_toArray, List.set_cons_zero, List.set_cons_succ])
        refine wpAnyH_take (i := 2) (oi := ?o2) (v := ?v2) ?hi2 (by kernel_rfl) (by kernel_rfl) (by kernel_rfl) (fun _ _ _ h => h) (Or.inl ⟨?w2, ?y2⟩) (by assumption) ?r2
        case hi2 => (simp only [List.getElem?_toArray, List.getElem?_cons_succ, List.getElem?_cons_zero]; try rfl)
        case w2 => rfl
        case y2 => (intro w hSw; (try dsimp only at hSw); go_simp; (try with_reducible rfl))
        (try simp only [Act.put, List.setIfInBounds_toArray, List.set_cons_zero, List.set_cons_succ])
        refine wpAnyH_take (i := 3) (oi := ?o3) (v := ?v3) ?hi3 (by kernel_rfl) (by kernel_rfl) (by kernel_rfl) (fun _ _ _ h => h) (Or.inl ⟨?w3, ?y3⟩) (by assumption) ?r3
        case hi3 => (simp only [List.getElem?_toArray, List.getElem?_cons_succ, List.getElem?_cons_zero]; try rfl)
        case w3 => rfl
        case y3 => (intro w hSw; (try dsimp only at hSw); go_simp; (try with_reducible rfl))
        (try simp only [Act.put, List.setIfInBounds_toArray, List.set_cons_zero, List.set_cons_succ])
        refine wpAnyH_take (i := 4) (oi := ?o4) (v := ?v4) ?hi4 (by kernel_rfl) (by kernel_rfl) (by kernel_rfl) (fun _ _ _ h => h) (Or.inl ⟨?w4, ?y4⟩) (by assumption) ?r4
        case hi4 => (simp only [List.getElem?_toArray, List.getElem?_cons_succ, List.getElem?_cons_zero]; try rfl)
        case w4 => rfl
        case y4 => (intro w hSw; (try dsimp only at hSw); go_simp; (try with_reducible rfl))
        (try simp only [Act.put, List.setIfInBounds_toArray, List.set_cons_zero, List.set_cons_succ])
        refine wpAnyH_take (i := 5) (oi := ?o5) (v := ?v5) ?hi5 (by kernel_rfl) (by kernel_rfl) (by kernel_rfl) (fun _ _ _ h => h) (Or.inl ⟨?w5, ?y5⟩) (by assumption) ?r5
        case hi5 => (simp only [List.getElem?_toArray, List.getElem?_cons_succ, List.getElem?_cons_zero]; try rfl)
        case w5 => rfl
        case y5 => (intro w hSw; (try dsimp only at hSw); go_simp; (try with_reducible rfl))
        (try simp only [Act.put, List.setIfInBounds_toArray, List.set_cons_zero, List.set_cons_succ])
        refine wpAnyH_take (i := 6) (oi := ?o6) (v := ?v6) ?hi6 (by kernel_rfl) (by kernel_rfl) (by kernel_rfl) (fun _ _ _ h => h) (Or.inl ⟨?w6, ?y6⟩) (by assumption) ?r6
        case hi6 => (simp only [List.getElem?_toArray, List.getElem?_cons_succ, List.getElem?_cons_zero]; try rfl)
        case w6 => rfl
        case y6 => (intro w hSw; (try dsimp only at hSw); go_simp; (try with_reducible rfl))
        (try simp only [Act.put, List.setIfInBounds_toArray, List.set_cons_zero, List.set_cons_succ])
        refine wpAnyH_take (i := 7) (oi := ?o7) (v := ?v7) ?hi7 (by kernel_rfl) (by kernel_rfl) (by kernel_rfl) (fun _ _ _ h => h) (Or.inl ⟨?w7, ?y7⟩) (by assumption) ?r7
        case hi7 => (simp only [List.getElem?_toArray, List.getElem?_cons_succ, List.getElem?_cons_zero]; try rfl)
        case w7 => rfl
        case y7 => (intro w hSw; (try dsimp only at hSw); go_simp; (try with_reducible rfl))
        (try simp only [Act.put, List.setIfInBounds_toArray, List.set_cons_zero, List.set_cons_succ])
        refine wpAnyH_take (i := 8) (oi := ?o8) (v := ?v8) ?hi8 (by kernel_rfl) (by kernel_rfl) (by kernel_rfl) (fun _ _ _ h => h) (Or.inl ⟨?w8, ?y8⟩) (by assumption) ?r8
        case hi8 => (simp only [List.getElem?_toArray, List.getElem?_cons_succ, List.getElem?_cons_zero]; try rfl)
        case w8 => rfl
        case y8 => (intro w hSw; (try dsimp only at hSw); go_simp; (try with_reducible rfl))
        (try simp only [Act.put, List.setIfInBounds_toArray, List.set_cons_zero, List.set_cons_succ])
        refine wpAnyH_take (i := 11) (oi := ?o11) (v := ?v11) ?hi11 (by kernel_rfl) (by kernel_rfl) (by kernel_rfl) (fun _ _ _ h => h) (Or.inl ⟨?w11, ?y11⟩) (by assumption) ?r11
        case hi11 => (simp only [List.getElem?_toArray, List.getElem?_cons_succ, List.getElem?_cons_zero]; try rfl)
        case w11 => rfl
        case y11 => (intro w hSw; (try dsimp only at hSw); go_simp; (try with_reducible rfl))
        (try simp only [Act.put, List.setIfInBounds_toArray, List.set_cons_zero, List.set_cons_succ])
        refine wpAnyH_ready (rs := [9]) (by kernel_rfl) (by simp) ?_
        refine AllReadyH.cons (o := ?o9) ?hi9 (fun K hK => ?_) AllReadyH.nil
        case hi9 => (simp only [List.getElem?_toArray, List.getElem?_cons_succ, List.getElem?_cons_zero]; try rfl)
        go_simp
        (go_at_call 19; refine (HBX.out _).mono ?_; rintro e wA ⟨vA, rfl, hvA, hkA, _⟩; have KA : Hid (Keep NoF wr wA) := Lib.hid (K0.out.trans' hkA); have OA := Lib.hid hvA; have hcA := conv_ownS hvA HSX.out; clear hkA hvA)
        go_wp2_with fail
        refine hK.out _ _ (HC.out _ KA.out) (fun hHeld => ?_)
        clear hK K
        (try simp only [Act.put, List.setIfInBounds_toArray, List.set_cons_zero, List.set_cons_succ])
        refine wpAnyH_ready (rs := [10, 12]) (by kernel_rfl) (by simp) ?_
        refine (AllReadyH.cons (o := ?o10) ?hi10 (fun K hK => ?_) (AllReadyH.cons (o := ?o12) ?hi12 (fun K hK => ?_) AllReadyH.nil))
        case hi10 => (simp only [List.getElem?_toArray, List.getElem?_cons_succ, List.getElem?_cons_zero]; try rfl)
        case hi12 => (simp only [List.getElem?_toArray, List.getElem?_cons_succ, List.getElem?_cons_zero]; try rfl)
        · go_simp
          refine hK.out _ _ (HC.out _ KA.out) (fun hHeld => ?_)
          clear hK K
          (try simp only [Act.put, List.setIfInBounds_toArray, List.set_cons_zero, List.set_cons_succ])
          refine wpAnyH_ready (rs := [12]) (by kernel_rfl) (by simp) ?_
          refine AllReadyH.cons (o := ?oa12) ?hia12 (fun K hK => ?_) AllReadyH.nil
          case hia12 => (simp only [List.getElem?_toArray, List.getElem?_cons_succ, List.getElem?_cons_zero]; try rfl)
          go_simp
          (go_at_call 19; refine (HBP.out _).mono ?_; rintro e wB ⟨vB, rfl, hvB, hkB, _⟩; have KB : Hid (Keep NoF wr wB) := Lib.hid (KA.out.trans' hkB); have OB := Lib.hid hvB; have hcB := conv_ownS hvB HSP.out; clear hkB hvB)
          go_wp2_with fail
          refine hK.out _ _ (HC.out _ KB.out) (fun hHeld => ?_)
          clear hK K
          (try simp only [Act.put, List.setIfInBounds_toArray, List.set_cons_zero, List.set_cons_succ])
          refine wpAnyH_ready (rs := [13]) (by kernel_rfl) (by simp) ?_
          refine AllReadyH.cons (o := ?oa13) ?hia13 (fun K hK => ?_) AllReadyH.nil
          case hia13 => (simp only [List.getElem?_toArray, List.getElem?_cons_succ, List.getElem?_cons_zero]; try rfl)
          go_simp
          refine hK.out _ _ (HC.out _ KB.out) (fun hHeld => ?_)
          clear hK K
          (try simp only [Act.put, List.setIfInBounds_toArray, List.set_cons_zero, List.set_cons_succ])
          refine wpAnyH_take (i := 14) (oi := ?oa14) (v := ?va14) ?hia14 (by kernel_rfl) (by kernel_rfl) (by kernel_rfl) (fun _ _ _ h => h) (Or.inl ⟨?wa14, ?ya14⟩) (by assumption) ?ra14
          case hia14 => (simp only [List.getElem?_toArray, List.getElem?_cons_succ, List.getElem?_cons_zero]; try rfl)
          case wa14 => rfl
          case ya14 => (intro w hSw; (try dsimp only at hSw); have hle := HLE.out; go_simp; (try with_reducible rfl))
          (try simp only [Act.put, List.setIfInBounds_toArray, List.set_cons_zero, List.set_cons_succ])
          refine wpAnyH_take (i := 15) (oi := ?oa15) (v := ?va15) ?hia15 (by kernel_rfl) (by kernel_rfl) (by kernel_rfl) (fun _ _ _ h => h) (Or.inl ⟨?wa15, ?ya15⟩) (by assumption) ?ra15
          case hia15 => (simp only [List.getElem?_toArray, List.getElem?_cons_succ, List.getElem?_cons_zero]; try rfl)
          case wa15 => rfl
          case ya15 => (intro w hSw; (try dsimp only at hSw); go_simp; (try with_reducible rfl))
          (try simp only [Act.put, List.setIfInBounds_toArray, List.set_cons_zero, List.set_cons_succ])
          refine wpAnyH_done (by kernel_rfl) ?_ _
          refine NoPanic.normal ?_
          (try go_wp2_with fail)
          go_meet
          first | exact ⟨by rw [HCB.out], KB.out⟩ | exact ⟨by rw [HCB.out], KA.out⟩
        · go_simp
          (go_at_call 19; refine (HBP.out _).mono ?_; rintro e wB ⟨vB, rfl, hvB, hkB, _⟩; have KB : Hid (Keep NoF wr wB) := Lib.hid (KA.out.trans' hkB); have OB := Lib.hid hvB; have hcB := conv_ownS hvB HSP.out; clear hcA; have hcA := conv_ownS (OA.out.keep hkB (fun _ _ f => f)) HSX.out; clear hkB hvB)
          go_wp2_with fail
          refine hK.out _ _ (HC.out _ KB.out) (fun hHeld => ?_)
          clear hK K
          (try simp only [Act.put, List.setIfInBounds_toArray, List.set_cons_zero, List.set_cons_succ])
          refine wpAnyH_ready (rs := [10, 13]) (by kernel_rfl) (by simp) ?_
          refine (AllReadyH.cons (o := ?ob10) ?hib10 (fun K hK => ?_) (AllReadyH.cons (o := ?ob13) ?hib13 (fun K hK => ?_) AllReadyH.nil))
          case hib10 => (simp only [List.getElem?_toArray, List.getElem?_cons_succ, List.getElem?_cons_zero]; try rfl)
          case hib13 => (simp only [List.getElem?_toArray, List.getElem?_cons_succ, List.getElem?_cons_zero]; try rfl)
          · go_simp
            refine hK.out _ _ (HC.out _ KB.out) (fun hHeld => ?_)
            clear hK K
            (try simp only [Act.put, List.setIfInBounds_toArray, List.set_cons_zero, List.set_cons_succ])
            refine wpAnyH_ready (rs := [13]) (by kernel_rfl) (by simp) ?_
            refine AllReadyH.cons (o := ?oba13) ?hiba13 (fun K hK => ?_) AllReadyH.nil
            case hiba13 => (simp only [List.getElem?_toArray, List.getElem?_cons_succ, List.getElem?_cons_zero]; try rfl)
            go_simp
            refine hK.out _ _ (HC.out _ KB.out) (fun hHeld => ?_)
            clear hK K
            (try simp only [Act.put, List.setIfInBounds_toArray, List.set_cons_zero, List.set_cons_succ])
            refine wpAnyH_take (i := 14) (oi := ?oba14) (v := ?vba14) ?hiba14 (by kernel_rfl) (by kernel_rfl) (by kernel_rfl) (fun _ _ _ h => h) (Or.inl ⟨?wba14, ?yba14⟩) (by assumption) ?rba14
            case hiba14 => (simp only [List.getElem?_toArray, List.getElem?_cons_succ, List.getElem?_cons_zero]; try rfl)
            case wba14 => rfl
            case yba14 => (intro w hSw; (try dsimp only at hSw); have hle := HLE.out; go_simp; (try with_reducible rfl))
            (try simp only [Act.put, List.setIfInBounds_toArray, List.set_cons_zero, List.set_cons_succ])
            refine wpAnyH_take (i := 15) (oi := ?oba15) (v := ?vba15) ?hiba15 (by kernel_rfl) (by kernel_rfl) (by kernel_rfl) (fun _ _ _ h => h) (Or.inl ⟨?wba15, ?yba15⟩) (by assumption) ?rba15
            case hiba15 => (simp only [List.getElem?_toArray, List.getElem?_cons_succ, List.getElem?_cons_zero]; try rfl)
            case wba15 => rfl
            case yba15 => (intro w hSw; (try dsimp only at hSw); go_simp; (try with_reducible rfl))
            (try simp only [Act.put, List.setIfInBounds_toArray, List.set_cons_zero, List.set_cons_succ])
            refine wpAnyH_done (by kernel_rfl) ?_ _
            refine NoPanic.normal ?_
            (try go_wp2_with fail)
            go_meet
            first | exact ⟨by rw [HCB.out], KB.out⟩ | exact ⟨by rw [HCB.out], KA.out⟩
          · go_simp
            refine hK.out _ _ (HC.out _ KB.out) (fun hHeld => ?_)
            clear hK K
            (try simp only [Act.put, List.setIfInBounds_toArray, List.set_cons_zero, List.set_cons_succ])
            refine wpAnyH_ready (rs := [10]) (by kernel_rfl) (by simp) ?_
            refine AllReadyH.cons (o := ?obb10) ?hibb10 (fun K hK => ?_) AllReadyH.nil
            case hibb10 => (simp only [List.getElem?_toArray, List.getElem?_cons_succ, List.getElem?_cons_zero]; try rfl)
            go_simp
            refine hK.out _ _ (HC.out _ KB.out) (fun hHeld => ?_)
            clear hK K
            (try simp only [Act.put, List.setIfInBounds_toArray, List.set_cons_zero, List.set_cons_succ])
            refine wpAnyH_take (i := 14) (oi := ?obb14) (v := ?vbb14) ?hibb14 (by kernel_rfl) (by kernel_rfl) (by kernel_rfl) (fun _ _ _ h => h) (Or.inl ⟨?wbb14, ?ybb14⟩) (by assumption) ?rbb14
            case hibb14 => (simp only [List.getElem?_toArray, List.getElem?_cons_succ, List.getElem?_cons_zero]; try rfl)
            case wbb14 => rfl
            case ybb14 => (intro w hSw; (try dsimp only at hSw); have hle := HLE.out; go_simp; (try with_reducible rfl))
            (try simp only [Act.put, List.setIfInBounds_toArray, List.set_cons_zero, List.set_cons_succ])
            refine wpAnyH_take (i := 15) (oi := ?obb15) (v := ?vbb15) ?hibb15 (by kernel_rfl) (by kernel_rfl) (by kernel_rfl) (fun _ _ _ h => h) (Or.inl ⟨?wbb15, ?ybb15⟩) (by assumption) ?rbb15
            case hibb15 => (simp only [List.getElem?_toArray, List.getElem?_cons_succ, List.getElem?_cons_zero]; try rfl)
            case wbb15 => rfl
            case ybb15 => (intro w hSw; (try dsimp only at hSw); go_simp; (try with_reducible rfl))
            (try simp only [Act.put, List.setIfInBounds_toArray, List.set_cons_zero, List.set_cons_succ])
            refine wpAnyH_done (by kernel_rfl) ?_ _
            refine NoPanic.normal ?_
            (try go_wp2_with fail)
            go_meet
            first | exact ⟨by rw [HCB.out], KB.out⟩ | exact ⟨by rw [HCB.out], KA.out⟩
      · have hlt2 : ¬ (j : Int) < n := by omega
        have hlt3 : decide (j < n) = false := by simp [hlt]
        have HCB : Hid (cB l P j = false) := Lib.hid (cB_out (by rw [HL.out]; omega))
        clear hlt
        refine wp_region_noPanic ?_
        refine wp_region_held_drew (S := (fun _ : World => True)) (by kernel_rfl) (trivial) (fun hHeld => ?_)
        refine wpAnyH_take (i := 0) (oi := ?oG0) (v := ?vG0) ?hiG0 (by kernel_rfl) (by kernel_rfl) (by kernel_rfl) (fun _ _ _ h => h) (Or.inl ⟨?wG0, ?yG0⟩) (by assumption) ?rG0
        case hiG0 => (simp only [List.getElem?_toArray, List.getElem?_cons_zero]; try rfl)
        case wG0 => rfl
        case yG0 => (intro w hSw; (try dsimp only at hSw); go_simp; (try with_reducible rfl))
        (try simp only [Act.put, List.setIfInBounds_toArray, List.set_cons_zero, List.set_cons_succ])
        refine wpAnyH_take (i := 1) (oi := ?oG1) (v := ?vG1) ?hiG1 (by kernel_rfl) (by kernel_rfl) (by kernel_rfl) (fun _ _ _ h => h) (Or.inl ⟨?wG1, ?yG1⟩) (by assumption) ?rG1
        case hiG1 => (simp only [List.getElem?_toArray, List.getElem?_cons_succ, List.getElem?_cons_zero]; try rfl)
        case wG1 => rfl
        case yG1 => (intro w hSw; (try dsimp only at hSw); go_simp; (try with_reducible rfl))
        (try simp only [Act.put, List.setIfInBounds_toArray, List.set_cons_zero, List.set_cons_succ])
        refine wpAnyH_take (i := 2) (oi := ?oG2) (v := ?vG2) ?hiG2 (by kernel_rfl) (by kernel_rfl) (by kernel_rfl) (fun _ _ _ h => h) (Or.inl ⟨?wG2, ?yG2⟩) (by assumption) ?rG2
        case hiG2 => (simp only [List.getElem?_toArray, List.getElem?_cons_succ, List.getElem?_cons_zero]; try rfl)
        case wG2 => rfl
        case yG2 => (intro w hSw; (try dsimp only at hSw); go_simp; (try with_reducible rfl))
        (try simp only [Act.put, List.setIfInBounds_toArray, List.set_cons_zero, List.set_cons_succ])
        refine wpAnyH_take (i := 3) (oi := ?oG3) (v := ?vG3) ?hiG3 (by kernel_rfl) (by kernel_rfl) (by kernel_rfl) (fun _ _ _ h => h) (Or.inl ⟨?wG3, ?yG3⟩) (by assumption) ?rG3
        case hiG3 => (simp only [List.getElem?_toArray, List.getElem?_cons_succ, List.getElem?_cons_zero]; try rfl)
        case wG3 => rfl
        case yG3 => (intro w hSw; (try dsimp only at hSw); go_simp; (try with_reducible rfl))
        (try simp only [Act.put, List.setIfInBounds_toArray, List.set_cons_zero, List.set_cons_succ])
        refine wpAnyH_take (i := 4) (oi := ?oG4) (v := ?vG4) ?hiG4 (by kernel_rfl) (by kernel_rfl) (by kernel_rfl) (fun _ _ _ h => h) (Or.inl ⟨?wG4, ?yG4⟩) (by assumption) ?rG4
        case hiG4 => (simp only [List.getElem?_toArray, List.getElem?_cons_succ, List.getElem?_cons_zero]; try rfl)
        case wG4 => rfl
        case yG4 => (intro w hSw; (try dsimp only at hSw); go_simp; (try with_reducible rfl))
        (try simp only [Act.put, List.setIfInBounds_toArray, List.set_cons_zero, List.set_cons_succ])
        refine wpAnyH_take (i := 5) (oi := ?oG5) (v := undef) ?hiG5 (by kernel_rfl) (by kernel_rfl) (by kernel_rfl) (fun _ _ _ h => h) (Or.inr ⟨?wG5, rfl⟩) (by assumption) ?rG5
        case hiG5 => (simp only [List.getElem?_toArray, List.getElem?_cons_succ, List.getElem?_cons_zero]; try rfl)
        case wG5 => rfl
        (try simp only [Act.put, List.setIfInBounds_toArray, List.set_cons_zero, List.set_cons_succ])
        refine wpAnyH_take (i := 6) (oi := ?oG6) (v := undef) ?hiG6 (by kernel_rfl) (by kernel_rfl) (by kernel_rfl) (fun _ _ _ h => h) (Or.inr ⟨?wG6, rfl⟩) (by assumption) ?rG6
        case hiG6 => (simp only [List.getElem?_toArray, List.getElem?_cons_succ, List.getElem?_cons_zero]; try rfl)
        case wG6 => rfl
        (try simp only [Act.put, List.setIfInBounds_toArray, List.set_cons_zero, List.set_cons_succ])
        refine wpAnyH_take (i := 7) (oi := ?oG7) (v := undef) ?hiG7 (by kernel_rfl) (by kernel_rfl) (by kernel_rfl) (fun _ _ _ h => h) (Or.inr ⟨?wG7, rfl⟩) (by assumption) ?rG7
        case hiG7 => (simp only [List.getElem?_toArray, List.getElem?_cons_succ, List.getElem?_cons_zero]; try rfl)
        case wG7 => rfl
        (try simp only [Act.put, List.setIfInBounds_toArray, List.set_cons_zero, List.set_cons_succ])
        refine wpAnyH_take (i := 8) (oi := ?oG8) (v := undef) ?hiG8 (by kernel_rfl) (by kernel_rfl) (by kernel_rfl) (fun _ _ _ h => h) (Or.inr ⟨?wG8, rfl⟩) (by assumption) ?rG8
        case hiG8 => (simp only [List.getElem?_toArray, List.getElem?_cons_succ, List.getElem?_cons_zero]; try rfl)
        case wG8 => rfl
        (try simp only [Act.put, List.setIfInBounds_toArray, List.set_cons_zero, List.set_cons_succ])
        refine wpAnyH_take (i := 9) (oi := ?oG9) (v := undef) ?hiG9 (by kernel_rfl) (by kernel_rfl) (by kernel_rfl) (fun _ _ _ h => h) (Or.inr ⟨?wG9, rfl⟩) (by assumption) ?rG9
        case hiG9 => (simp only [List.getElem?_toArray, List.getElem?_cons_succ, List.getElem?_cons_zero]; try rfl)
        case wG9 => rfl
        (try simp only [Act.put, List.setIfInBounds_toArray, List.set_cons_zero, List.set_cons_succ])
        refine wpAnyH_take (i := 10) (oi := ?oG10) (v := undef) ?hiG10 (by kernel_rfl) (by kernel_rfl) (by kernel_rfl) (fun _ _ _ h => h) (Or.inr ⟨?wG10, rfl⟩) (by assumption) ?rG10
        case hiG10 => (simp only [List.getElem?_toArray, List.getElem?_cons_succ, List.getElem?_cons_zero]; try rfl)
        case wG10 => rfl
        (try simp only [Act.put, List.setIfInBounds_toArray, List.set_cons_zero, List.set_cons_succ])
        refine wpAnyH_take (i := 11) (oi := ?oG11) (v := undef) ?hiG11 (by kernel_rfl) (by kernel_rfl) (by kernel_rfl) (fun _ _ _ h => h) (Or.inr ⟨?wG11, rfl⟩) (by assumption) ?rG11
        case hiG11 => (simp only [List.getElem?_toArray, List.getElem?_cons_succ, List.getElem?_cons_zero]; try rfl)
        case wG11 => rfl
        (try simp only [Act.put, List.setIfInBounds_toArray, List.set_cons_zero, List.set_cons_succ])
        refine wpAnyH_take (i := 12) (oi := ?oG12) (v := undef) ?hiG12 (by kernel_rfl) (by kernel_rfl) (by kernel_rfl) (fun _ _ _ h => h) (Or.inr ⟨?wG12, rfl⟩) (by assumption) ?rG12
        case hiG12 => (simp only [List.getElem?_toArray, List.getElem?_cons_succ, List.getElem?_cons_zero]; try rfl)
        case wG12 => rfl
        (try simp only [Act.put, List.setIfInBounds_toArray, List.set_cons_zero, List.set_cons_succ])
        refine wpAnyH_take (i := 13) (oi := ?oG13) (v := undef) ?hiG13 (by kernel_rfl) (by kernel_rfl) (by kernel_rfl) (fun _ _ _ h => h) (Or.inr ⟨?wG13, rfl⟩) (by assumption) ?rG13
        case hiG13 => (simp only [List.getElem?_toArray, List.getElem?_cons_succ, List.getElem?_cons_zero]; try rfl)
        case wG13 => rfl
        (try simp only [Act.put, List.setIfInBounds_toArray, List.set_cons_zero, List.set_cons_succ])
        refine wpAnyH_take (i := 14) (oi := ?oG14) (v := undef) ?hiG14 (by kernel_rfl) (by kernel_rfl) (by kernel_rfl) (fun _ _ _ h => h) (Or.inr ⟨?wG14, rfl⟩) (by assumption) ?rG14
        case hiG14 => (simp only [List.getElem?_toArray, List.getElem?_cons_succ, List.getElem?_cons_zero]; try rfl)
        case wG14 => rfl
        (try simp only [Act.put, List.setIfInBounds_toArray, List.set_cons_zero, List.set_cons_succ])
        refine wpAnyH_take (i := 15) (oi := ?oG15) (v := ?vG15) ?hiG15 (by kernel_rfl) (by kernel_rfl) (by kernel_rfl) (fun _ _ _ h => h) (Or.inl ⟨?wG15, ?yG15⟩) (by assumption) ?rG15
        case hiG15 => (simp only [List.getElem?_toArray, List.getElem?_cons_succ, List.getElem?_cons_zero]; try rfl)
        case wG15 => rfl
        case yG15 => (intro w hSw; (try dsimp only at hSw); go_simp; (try with_reducible rfl))
        (try simp only [Act.put, List.setIfInBounds_toArray, List.set_cons_zero, List.set_cons_succ])
        refine wpAnyH_done (by kernel_rfl) ?_ _
        refine NoPanic.normal ?_
        (try go_wp2_with fail)
        go_meet
        exact ⟨by rw [HCB.out], (Keep.refl NoF wr).drew⟩
    case rest =>
      obtain ⟨rfl, hkc⟩ := hcut
      have KC := Lib.hid (KR.out.trans' hkc)
      clear hkc
      obtain ⟨wq, rfl⟩ : ∃ W, W = wc := ⟨_, rfl⟩
      obtain ⟨bl, hbl⟩ : ∃ b, cB l P j = b := ⟨_, rfl⟩
      rw [hbl]
      cases bl with
      | true =>
        have hjn := cB_lt hbl
        rw [HL.out] at hjn
        have HTK2 := Lib.hid (take_le HTK.out hbl)
        clear hbl
        go_wp2_with fail
        go_roundw
        case rel => exact ⟨j + 1, by omega, by go_num, HTK2.out, KC.out⟩
        case measure => simp [intOf]; omega
      | false =>
        have HIN := Lib.hid (ins_split HTK.out hbl)
        clear hbl
        go_wp2_with fail
        have hrow : wq.ownsRow 0 23 6 (.slice ao n cp) n (l.flatMap pkL) := row_keep HO.out (HKB.out.trans' KC.out) (fun _ _ f => f)
        have HR := Lib.hid hrow
        have SRC1 : Hid (∀ W, Keep NoF wq W → Src Tryz.prog 6 38 (.slice ao j cp) j ((l.take j).flatMap pkL) W) := Lib.hid fun W hW => src_upto pkL_len pkL_one Tryz.underlying38 (row_keep HR.out hW (fun _ _ f => f)) HL.out j hj cp
        have SRC2 : Hid (∀ W, Keep NoF wq W → Src Tryz.prog 6 38 (.slice (fromA ao j cp 6) (n - j) (cp - j)) (n - j) ((l.drop j).flatMap pkL) W) := Lib.hid fun W hW => src_from pkL_len pkL_one Tryz.underlying38 (row_keep HR.out hW (fun _ _ f => f)) HL.out j hj (cp - j)
        have HHI := Lib.hid (fun W => run_upto (P := Tryz.prog) Tryz.underlying38 infoPk ao n cp j (by omega) W)
        have HLO := Lib.hid (fun W => run_from (P := Tryz.prog) Tryz.underlying38 infoPk ao n cp j (by omega) W)
        have HC : Hid (∀ W, Keep NoF wq W → W.cell? ⟨B, 0, none⟩ = some (.int .i64 k) ∧ W.cell? ⟨B, 1, none⟩ = some (.int .i64 f) ∧ W.cell? ⟨B, 2, none⟩ = some (.int .i64 t) ∧ W.cell? ⟨B, 3, none⟩ = some (.int .i64 d) ∧ W.cell? ⟨B, 4, none⟩ = some (.int .i64 y_) ∧ W.cell? ⟨B, 5, none⟩ = some (.bool y)) := Lib.hid fun W hW => HCB0.out W ((KC.out.trans' hW).block B HLB.out.1 (fun f => f))
        have K0 := Lib.hid ((Keep.refl NoF wq).drew)
        clear hrow
        refine wp_region_noPanic ?_
        refine wp_region_held_drew (S := (fun W' : World => W'.cell? ⟨B, 0, none⟩ = some (.int .i64 k) ∧ W'.cell? ⟨B, 1, none⟩ = some (.int .i64 f) ∧ W'.cell? ⟨B, 2, none⟩ = some (.int .i64 t) ∧ W'.cell? ⟨B, 3, none⟩ = some (.int .i64 d) ∧ W'.cell? ⟨B, 4, none⟩ = some (.int .i64 y_) ∧ W'.cell? ⟨B, 5, none⟩ = some (.bool y))) (by kernel_rfl) (HC.out _ (K0.out)) (fun hHeld => ?_)
        refine wpAnyH_take (i := 0) (oi := ?oZ0) (v := ?vZ0) ?hiZ0 (by kernel_rfl) (by kernel_rfl) (by kernel_rfl) (fun _ _ _ h => h) (Or.inl ⟨?wZ0, ?yZ0⟩) (by assumption) ?rZ0
        case hiZ0 => (simp only [List.getElem?_toArray, List.getElem?_cons_zero]; try rfl)
        case wZ0 => rfl
        case yZ0 => (intro w hSw; (try dsimp only at hSw); go_simp; (try with_reducible rfl))
        (try simp only [Act.put, List.setIfInBounds_toArray, List.set_cons_zero, List.set_cons_succ])
        refine wpAnyH_take (i := 1) (oi := ?oZ1) (v := ?vZ1) ?hiZ1 (by kernel_rfl) (by kernel_rfl) (by kernel_rfl) (fun _ _ _ h => h) (Or.inl ⟨?wZ1, ?yZ1⟩) (by assumption) ?rZ1
        case hiZ1 => (simp only [List.getElem?_toArray, List.getElem?_cons_succ, List.getElem?_cons_zero]; try rfl)
        case wZ1 => rfl
        case yZ1 => (intro w hSw; (try dsimp only at hSw); go_simp; (try with_reducible rfl))
        (try simp only [Act.put, List.setIfInBounds_toArray, List.set_cons_zero, List.set_cons_succ])
        refine wpAnyH_take (i := 2) (oi := ?oZ2) (v := .slice ao j cp) ?hiZ2 (by kernel_rfl) (by kernel_rfl) (by kernel_rfl) (fun _ _ _ h => h) (Or.inl ⟨?wZ2, ?yZ2⟩) (by assumption) ?rZ2
        case hiZ2 => (simp only [List.getElem?_toArray, List.getElem?_cons_succ, List.getElem?_cons_zero]; try rfl)
        case wZ2 => rfl
        case yZ2 => (intro w hSw; exact slice_yields rfl (HHI.out w))
        (try simp only [Act.put, List.setIfInBounds_toArray, List.set_cons_zero, List.set_cons_succ])
        refine wpAnyH_take (i := 4) (oi := ?oZ4) (v := ?vZ4) ?hiZ4 (by kernel_rfl) (by kernel_rfl) (by kernel_rfl) (fun _ _ _ h => h) (Or.inl ⟨?wZ4, ?yZ4⟩) (by assumption) ?rZ4
        case hiZ4 => (simp only [List.getElem?_toArray, List.getElem?_cons_succ, List.getElem?_cons_zero]; try rfl)
        case wZ4 => rfl
        case yZ4 => (intro w hSw; (try dsimp only at hSw); go_simp; (try with_reducible rfl))
        (try simp only [Act.put, List.setIfInBounds_toArray, List.set_cons_zero, List.set_cons_succ])
        refine wpAnyH_take (i := 7) (oi := ?oZ7) (v := ?vZ7) ?hiZ7 (by kernel_rfl) (by kernel_rfl) (by kernel_rfl) (fun _ _ _ h => h) (Or.inl ⟨?wZ7, ?yZ7⟩) (by assumption) ?rZ7
        case hiZ7 => (simp only [List.getElem?_toArray, List.getElem?_cons_succ, List.getElem?_cons_zero]; try rfl)
        case wZ7 => rfl
        case yZ7 => (intro w hSw; (try dsimp only at hSw); go_simp; (try with_reducible rfl))
        (try simp only [Act.put, List.setIfInBounds_toArray, List.set_cons_zero, List.set_cons_succ])
        refine wpAnyH_take (i := 8) (oi := ?oZ8) (v := ?vZ8) ?hiZ8 (by kernel_rfl) (by kernel_rfl) (by kernel_rfl) (fun _ _ _ h => h) (Or.inl ⟨?wZ8, ?yZ8⟩) (by assumption) ?rZ8
        case hiZ8 => (simp only [List.getElem?_toArray, List.getElem?_cons_succ, List.getElem?_cons_zero]; try rfl)
        case wZ8 => rfl
        case yZ8 => (intro w hSw; (try dsimp only at hSw); go_simp; (try with_reducible rfl))
        (try simp only [Act.put, List.setIfInBounds_toArray, List.set_cons_zero, List.set_cons_succ])
        refine wpAnyH_take (i := 9) (oi := ?oZ9) (v := .slice (fromA ao j cp 6) (n - j) (cp - j)) ?hiZ9 (by kernel_rfl) (by kernel_rfl) (by kernel_rfl) (fun _ _ _ h => h) (Or.inl ⟨?wZ9, ?yZ9⟩) (by assumption) ?rZ9
        case hiZ9 => (simp only [List.getElem?_toArray, List.getElem?_cons_succ, List.getElem?_cons_zero]; try rfl)
        case wZ9 => rfl
        case yZ9 => (intro w hSw; exact slice_yields rfl (HLO.out w))
        (try simp only [Act.put, List.setIfInBounds_toArray, List.set_cons_zero, List.set_cons_succ])
        refine wpAnyH_ready (rs := [3, 5]) (by kernel_rfl) (by simp) ?_
        refine (AllReadyH.cons (o := ?oZ3) ?hiZ3 (fun K hK => ?_) (AllReadyH.cons (o := ?oZ5) ?hiZ5 (fun K hK => ?_) AllReadyH.nil))
        case hiZ3 => (simp only [List.getElem?_toArray, List.getElem?_cons_succ, List.getElem?_cons_zero]; try rfl)
        case hiZ5 => (simp only [List.getElem?_toArray, List.getElem?_cons_succ, List.getElem?_cons_zero]; try rfl)
        · refine step_app 38 38 23 (.agg #[.int .i64 0, .int .i64 0, .int .i64 0, .int .i64 0, .int .i64 0, .bool false]) 6 48 Tryz.underlying38 infoPk rfl (by decide) (by decide) rfl rfl rfl rfl (v := .slice none 0 0) (sv := (.slice ao j cp)) (World.ownsRow_nil _ _ _ _) (SRC1.out _ (K0.out)) (by omega) ?_
          intro a1 c1 W1a hown1 hgr1 hfr1
          simp only [Nat.zero_add, List.nil_append] at hown1 hgr1 hfr1 ⊢
          have kA : Keep NoF wq W1a := (K0.out).grown hgr1 (fun k _ e => by cases e)
          have fr1 : ∀ b, (Value.slice a1 j c1).ownBlock = some b → wq.heap.size ≤ b := fun b hk => by
            rcases hfr1 with f | f
            · rw [f] at hk; cases hk
            · rw [f] at hk; injection hk with hk; exact Nat.le_trans (K0.out).size (Nat.le_of_eq hk)
          refine hK.out _ _ (HC.out _ (kA)) (fun hHeld => ?_)
          clear hK K
          (try simp only [Act.put, List.setIfInBounds_toArray, List.set_cons_zero, List.set_cons_succ])
          refine wpAnyH_ready (rs := [5]) (by kernel_rfl) (by simp) ?_
          refine (AllReadyH.cons (o := ?oZa5) ?hiZa5 (fun K hK => ?_) AllReadyH.nil)
          case hiZa5 => (simp only [List.getElem?_toArray, List.getElem?_cons_succ, List.getElem?_cons_zero]; try rfl)
          go_simp
          refine hK.out _ _ (HC.out _ (kA.alloc _)) (fun hHeld => ?_)
          clear hK K
          (try simp only [Act.put, List.setIfInBounds_toArray, List.set_cons_zero, List.set_cons_succ])
          have kA2 := kA.alloc (.cells #[.int .i64 k, .int .i64 f, .int .i64 t, .int .i64 d, .int .i64 y_, .bool y] 23 (0, 0))
          refine wpAnyH_ready (rs := [6]) (by kernel_rfl) (by simp) ?_
          refine (AllReadyH.cons (o := ?oZa6) ?hiZa6 (fun K hK => ?_) AllReadyH.nil)
          case hiZa6 => (simp only [List.getElem?_toArray, List.getElem?_cons_succ, List.getElem?_cons_zero]; try rfl)
          refine step_app 38 38 23 (.agg #[.int .i64 0, .int .i64 0, .int .i64 0, .int .i64 0, .int .i64 0, .bool false]) 6 48 Tryz.underlying38 infoPk rfl (by decide) (by decide) rfl rfl rfl rfl (v := .slice a1 j c1) (sv := (.slice (some ⟨W1a.heap.size, 0, none⟩) 1 1)) (hown1.alloc _) (src_oneK (x := ⟨k, f, t, d, y_, y⟩) pkL_one pkL_len Tryz.underlying38 (heap_new W1a _) rfl 1) (by omega) ?_
          intro a3 c3 W3 hown3 hgr3 hfr3
          have kB : Keep NoF wq W3 := (kA2).grown hgr3 (fun b hk e => by have := fr1 b e; omega)
          have fr3 : ∀ b, (Value.slice a3 (j + 1) c3).ownBlock = some b → wq.heap.size ≤ b := fun b hk => by
            rcases hfr3 with f | f
            · rw [f] at hk; exact fr1 b hk
            · rw [f] at hk; injection hk with hk; exact Nat.le_trans (kA2).size (Nat.le_of_eq hk)
          refine hK.out _ _ (HC.out _ (kB)) (fun hHeld => ?_)
          clear hK K
          (try simp only [Act.put, List.setIfInBounds_toArray, List.set_cons_zero, List.set_cons_succ])
          refine wpAnyH_ready (rs := [10]) (by kernel_rfl) (by simp) ?_
          refine (AllReadyH.cons (o := ?oZa10) ?hiZa10 (fun K hK => ?_) AllReadyH.nil)
          case hiZa10 => (simp only [List.getElem?_toArray, List.getElem?_cons_succ, List.getElem?_cons_zero]; try rfl)
          refine step_app 38 38 23 (.agg #[.int .i64 0, .int .i64 0, .int .i64 0, .int .i64 0, .int .i64 0, .bool false]) 6 48 Tryz.underlying38 infoPk rfl (by decide) (by decide) rfl rfl rfl rfl (v := .slice a3 (j + 1) c3) (sv := (.slice (fromA ao j cp 6) (n - j) (cp - j))) (hown3) (SRC2.out _ kB) (by omega) ?_
          intro a4 c4 W4 hown4 hgr4 hfr4
          have kC : Keep NoF wq W4 := kB.grown hgr4 (fun b hk e => by have := fr3 b e; omega)
          have fr4 : ∀ b, (Value.slice a4 (j + 1 + (n - j)) c4).ownBlock = some b → wq.heap.size ≤ b := fun b hk => by
            rcases hfr4 with f | f
            · rw [f] at hk; exact fr3 b hk
            · rw [f] at hk; injection hk with hk; exact Nat.le_trans (kB).size (Nat.le_of_eq hk)
          refine hK.out _ _ (HC.out _ (kC)) (fun hHeld => ?_)
          clear hK K
          (try simp only [Act.put, List.setIfInBounds_toArray, List.set_cons_zero, List.set_cons_succ])
          refine wpAnyH_take (i := 11) (oi := ?oZa11) (v := ?vZa11) ?hiZa11 (by kernel_rfl) (by kernel_rfl) (by kernel_rfl) (fun _ _ _ h => h) (Or.inl ⟨?wZa11, ?yZa11⟩) (by assumption) ?rZa11
          case hiZa11 => (simp only [List.getElem?_toArray, List.getElem?_cons_succ, List.getElem?_cons_zero]; try rfl)
          case wZa11 => rfl
          case yZa11 => (intro w hSw; (try dsimp only at hSw); go_simp; (try with_reducible rfl))
          (try simp only [Act.put, List.setIfInBounds_toArray, List.set_cons_zero, List.set_cons_succ])
          refine wpAnyH_done (by kernel_rfl) ?_ _
          refine NoPanic.normal ?_
          go_wp2_with fail
          go_ret
          have e1 : j + 1 + (n - j) = n + 1 := by omega
          have hown5 : W4.ownsRow 0 23 6 (.slice a4 (n + 1) c4) (n + 1) ((insP P l).flatMap pkL) := by
            rw [e1] at hown4
            rw [HIN.out, List.flatMap_append, List.flatMap_cons, HPV.out.2]
            simpa [pkL] using hown4
          rw [e1] at fr4 ⊢
          exact ⟨a4, c4, rfl, hown5, fun g hg => Nat.le_trans (HKB.out.trans' KC.out).size (fr4 g hg), (HKB.out.trans' KC.out).trans' kC⟩
        · go_simp
          refine hK.out _ _ (HC.out _ (K0.out.alloc _)) (fun hHeld => ?_)
          clear hK K
          (try simp only [Act.put, List.setIfInBounds_toArray, List.set_cons_zero, List.set_cons_succ])
          have k1 := K0.out.alloc (.cells #[.int .i64 k, .int .i64 f, .int .i64 t, .int .i64 d, .int .i64 y_, .bool y] 23 (0, 0))
          refine wpAnyH_ready (rs := [3]) (by kernel_rfl) (by simp) ?_
          refine (AllReadyH.cons (o := ?oZb3) ?hiZb3 (fun K hK => ?_) AllReadyH.nil)
          case hiZb3 => (simp only [List.getElem?_toArray, List.getElem?_cons_succ, List.getElem?_cons_zero]; try rfl)
          refine step_app 38 38 23 (.agg #[.int .i64 0, .int .i64 0, .int .i64 0, .int .i64 0, .int .i64 0, .bool false]) 6 48 Tryz.underlying38 infoPk rfl (by decide) (by decide) rfl rfl rfl rfl (v := .slice none 0 0) (sv := (.slice ao j cp)) (World.ownsRow_nil _ _ _ _) (SRC1.out _ (k1)) (by omega) ?_
          intro a1 c1 W1b hown1 hgr1 hfr1
          simp only [Nat.zero_add, List.nil_append] at hown1 hgr1 hfr1 ⊢
          have kA : Keep NoF wq W1b := (k1).grown hgr1 (fun k _ e => by cases e)
          have fr1 : ∀ b, (Value.slice a1 j c1).ownBlock = some b → wq.heap.size ≤ b := fun b hk => by
            rcases hfr1 with f | f
            · rw [f] at hk; cases hk
            · rw [f] at hk; injection hk with hk; exact Nat.le_trans (k1).size (Nat.le_of_eq hk)
          have hpb : W1b.heap[wq.heap.size]? = some (.cells #[.int .i64 k, .int .i64 f, .int .i64 t, .int .i64 d, .int .i64 y_, .bool y] 23 (0, 0)) := (hgr1.block wq.heap.size (by simp) (by simp [Value.ownBlock])).trans (heap_new wq.drew _)
          refine hK.out _ _ (HC.out _ (kA)) (fun hHeld => ?_)
          clear hK K
          (try simp only [Act.put, List.setIfInBounds_toArray, List.set_cons_zero, List.set_cons_succ])
          refine wpAnyH_ready (rs := [6]) (by kernel_rfl) (by simp) ?_
          refine (AllReadyH.cons (o := ?oZb6) ?hiZb6 (fun K hK => ?_) AllReadyH.nil)
          case hiZb6 => (simp only [List.getElem?_toArray, List.getElem?_cons_succ, List.getElem?_cons_zero]; try rfl)
          refine step_app 38 38 23 (.agg #[.int .i64 0, .int .i64 0, .int .i64 0, .int .i64 0, .int .i64 0, .bool false]) 6 48 Tryz.underlying38 infoPk rfl (by decide) (by decide) rfl rfl rfl rfl (v := .slice a1 j c1) (sv := (.slice (some ⟨wq.heap.size, 0, none⟩) 1 1)) (hown1) (src_oneK (x := ⟨k, f, t, d, y_, y⟩) pkL_one pkL_len Tryz.underlying38 (hpb) rfl 1) (by omega) ?_
          intro a3 c3 W3 hown3 hgr3 hfr3
          have kB : Keep NoF wq W3 := (kA).grown hgr3 (fun b hk e => by have := fr1 b e; omega)
          have fr3 : ∀ b, (Value.slice a3 (j + 1) c3).ownBlock = some b → wq.heap.size ≤ b := fun b hk => by
            rcases hfr3 with f | f
            · rw [f] at hk; exact fr1 b hk
            · rw [f] at hk; injection hk with hk; exact Nat.le_trans (kA).size (Nat.le_of_eq hk)
          refine hK.out _ _ (HC.out _ (kB)) (fun hHeld => ?_)
          clear hK K
          (try simp only [Act.put, List.setIfInBounds_toArray, List.set_cons_zero, List.set_cons_succ])
          refine wpAnyH_ready (rs := [10]) (by kernel_rfl) (by simp) ?_
          refine (AllReadyH.cons (o := ?oZb10) ?hiZb10 (fun K hK => ?_) AllReadyH.nil)
          case hiZb10 => (simp only [List.getElem?_toArray, List.getElem?_cons_succ, List.getElem?_cons_zero]; try rfl)
          refine step_app 38 38 23 (.agg #[.int .i64 0, .int .i64 0, .int .i64 0, .int .i64 0, .int .i64 0, .bool false]) 6 48 Tryz.underlying38 infoPk rfl (by decide) (by decide) rfl rfl rfl rfl (v := .slice a3 (j + 1) c3) (sv := (.slice (fromA ao j cp 6) (n - j) (cp - j))) (hown3) (SRC2.out _ kB) (by omega) ?_
          intro a4 c4 W4 hown4 hgr4 hfr4
          have kC : Keep NoF wq W4 := kB.grown hgr4 (fun b hk e => by have := fr3 b e; omega)
          have fr4 : ∀ b, (Value.slice a4 (j + 1 + (n - j)) c4).ownBlock = some b → wq.heap.size ≤ b := fun b hk => by
            rcases hfr4 with f | f
            · rw [f] at hk; exact fr3 b hk
            · rw [f] at hk; injection hk with hk; exact Nat.le_trans (kB).size (Nat.le_of_eq hk)
          refine hK.out _ _ (HC.out _ (kC)) (fun hHeld => ?_)
          clear hK K
          (try simp only [Act.put, List.setIfInBounds_toArray, List.set_cons_zero, List.set_cons_succ])
          refine wpAnyH_take (i := 11) (oi := ?oZb11) (v := ?vZb11) ?hiZb11 (by kernel_rfl) (by kernel_rfl) (by kernel_rfl) (fun _ _ _ h => h) (Or.inl ⟨?wZb11, ?yZb11⟩) (by assumption) ?rZb11
          case hiZb11 => (simp only [List.getElem?_toArray, List.getElem?_cons_succ, List.getElem?_cons_zero]; try rfl)
          case wZb11 => rfl
          case yZb11 => (intro w hSw; (try dsimp only at hSw); go_simp; (try with_reducible rfl))
          (try simp only [Act.put, List.setIfInBounds_toArray, List.set_cons_zero, List.set_cons_succ])
          refine wpAnyH_done (by kernel_rfl) ?_ _
          refine NoPanic.normal ?_
          go_wp2_with fail
          go_ret
          have e1 : j + 1 + (n - j) = n + 1 := by omega
          have hown5 : W4.ownsRow 0 23 6 (.slice a4 (n + 1) c4) (n + 1) ((insP P l).flatMap pkL) := by
            rw [e1] at hown4
            rw [HIN.out, List.flatMap_append, List.flatMap_cons, HPV.out.2]
            simpa [pkL] using hown4
          rw [e1] at fr4 ⊢
          exact ⟨a4, c4, rfl, hown5, fun g hg => Nat.le_trans (HKB.out.trans' KC.out).size (fr4 g hg), (HKB.out.trans' KC.out).trans' kC⟩
end Go.Proofs.YtlabhbjampkhpaaGreat
