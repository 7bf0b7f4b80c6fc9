/- The operations: what the evaluator says comes about (10): append, copy, clear. The operations: what the evaluator says comes about (11): append, copy, clear, as operations; bytes out of texts; structs and slices that are built. The operations: what the evaluator says comes about (12): copy, clear, new rows. The operations: what the evaluator says comes about (13): clear, bytes, structs, new slices. The operations: what the evaluator says comes about (14): what is built. The operations: what the evaluator says comes about (15): maps. The operations: what the evaluator says comes about (16): entries of maps, ranging. Every operation that the evaluator takes, as the model has it. Every operation that is compiled comes about as the evaluator says. -/
import Derived.Test.YtkjdclpneaepkaaGreatEvP1
set_option linter.unusedVariables false
section
open Go
namespace Go.Ev
section
variable {P : Program} {o : Oper}
theorem CR_same {ρ : Ren} {tr : T AV} {n n' : Nat} {c c' : Array Value} (h : CR ρ tr n c) (hn : n ≤ n') (hc : ∀ i, i < n → c'[i]? = c[i]?) : CR ρ tr n' c' := fun i v e =>
  let ⟨a, u, b, d⟩ := h i v e; ⟨Nat.lt_of_lt_of_le a hn, u, by rw [hc i a]; exact b, d⟩
/-- Cells behind those that are known, written where they stand already. -/
theorem CR_more {ρ : Ren} {tr : T AV} {n : Nat} {c : Array Value} (h : CR ρ tr n c) (hn : n ≤ c.size) {l : AV} {new : List Value} (hl : Vs ρ l new) (ex : List Value) :
    CR ρ (putCells l n tr) (n + new.length) (c.toList.take n ++ new ++ ex).toArray := by
  have hlen : (c.toList.take n).length = n := by simp; omega
  have h1 : CR ρ tr (n + new.length) (c.toList.take n ++ new ++ ex).toArray := CR_same h (by omega) fun i hi => by
    rw [List.getElem?_toArray, List.append_assoc, List.getElem?_append_left (by omega), List.getElem?_take, if_pos hi, Array.getElem?_toList]
  have h2 := CR_putCells l new tr (n + new.length) _ n h1 hl (Nat.le_refl _) (by simp; omega)
  have h3 : wr (c.toList.take n ++ new ++ ex).toArray n new = (c.toList.take n ++ new ++ ex).toArray := by
    apply Array.toList_inj.1
    rw [wr_toList _ _ _ (by simp; omega)]
    simp only [List.append_assoc]
    rw [List.take_left' hlen]
    congr 2
    rw [← List.append_assoc, List.drop_left' (by simp; omega)]
  rw [h3] at h2; exact h2
theorem firstOld {w : World} {g len : Nat} {c : Array Value} {e : TypeId} {fz : Nat × Nat} {es cap : Nat} (h : w.heap[g]? = some (.cells c e fz)) (hl : len * es ≤ c.size) : ∀ W : World, W.heap = w.heap → (Builtin.firstCells es len (.slice (some ⟨g, 0, none⟩) len cap)).run P W = .ok (c.toList.take (len * es)).toArray W := fun W hW => by
  have hc : ∀ j v, (c.toList.take (len * es))[j]? = some v → W.cell? ((⟨g, 0, none⟩ : Addr).add j) = some v := fun j v hv => by
    rw [add_eq, cell_of (by rw [hW]; exact h), Nat.zero_add]
    rw [List.getElem?_take] at hv
    split at hv
    · simpa using hv
    · cases hv
  have := run_loadCells_list (P := P) (w := W) _ _ hc
  rw [show (c.toList.take (len * es)).length = len * es by simp; omega] at this
  simpa [Builtin.firstCells] using this
theorem grow_eq (es : Nat) (c : AV) (n : Nat) (h : Hp) (nx : Pa) : grow es c n h nx = .ok (.so nx 0 n es) (setP (some (newBlk c)) nx h) nx.succ := by unfold grow; rw [force_eq]
variable {t e : TypeId} {i : TypeInfo} {z : Value}
theorem app2_run {ty : TypeId} {tt : Array TypeId} (htt : tt[0]? = some t) (ht : P.underlying t = some (.slice e)) (hi : P.info? e = some i) (hz : i.zero = some z) (hzs : z.cells.size = i.size) (hs0 : 0 < i.size) (hb : i.bytes ≤ 100000) (hb0 : 0 < i.bytes)
    {ρ : Ren} {h : Hp} {nx : Pa} {w : World} (H : HR ρ h nx w) {x l av : AV} {xv yv : Value} {n : Nat} {new : List Value} (hx : V ρ x xv) (hS : Src P i.size tt yv z n new w) (hl : Vs ρ l new) {h' : Hp} {nx' : Pa} (e' : oApp2 i.size x (l, n) h nx = .ok av h' nx') :
    ∃ ρ' v w', (Builtin.append_ tt ty #[xv, yv]).run P w = .ok v w' ∧ V ρ' av v ∧ HR ρ' h' nx' w' ∧ Stp ρ h w ρ' h' w' := by
  unfold oApp2 at e'
  replace ⟨k1, e'⟩ := cut1 e' (noBad _)
  obtain ⟨hfl, hn⟩ := and_ok k1
  have hfl : flatA l = true := hfl
  have hn : n ≤ 1000000 := Nat.le_of_ble_eq_true hn
  -- a new row, whatever was ahead
  have fresh : ∀ (c : Nat) (lo : AV) (old : List Value) (h1 : Hp) (need : Nat), need ≤ c → Vs ρ lo (old ++ new) → (old ++ new).length = need * i.size → 
      ∀ W, W = w.drew.alloc (.cells (old ++ new ++ (Builtin.zeroCells z.cells (c - need)).toList).toArray e) → V (upd ρ nx (w.heap.size, c * i.size)) (.so nx 0 need i.size) (.slice (some ⟨w.heap.size, 0, none⟩) need c) := fun c lo old h1 need hc _ _ W _ =>
    ⟨_, _, upd_same _ _ _, by rw [Nat.sub_zero, Nat.mul_div_cancel _ hs0]⟩
  have size : ∀ (c need : Nat) (old : List Value), need ≤ c → (old ++ new).length = need * i.size → (old ++ new).length + (Builtin.zeroCells z.cells (c - need)).toList.length = c * i.size := fun c need old hc hlen => by
    rw [hlen, Array.length_toList, size_zeroCells, hzs, ← Nat.add_mul]; congr 1; omega
  split at e'
  · -- nil
    cases (show xv = _ from hx)
    cases n with
    | zero =>
      have e' : Rv.ok .ns h nx = .ok av h' nx' := e'
      obtain ⟨rfl, rfl, rfl⟩ := ok3 e'
      exact ⟨ρ, _, w, run_app_room htt ht hi hz hS hb (Nat.le_refl 0) ⟨rfl, rfl⟩, rfl, H, Stp.refl _ _ _⟩
    | succ m =>
      have e' : grow i.size l (m + 1) h nx = .ok av h' nx' := e'
      rw [grow_eq] at e'
      obtain ⟨rfl, rfl, rfl⟩ := ok3 e'
      obtain ⟨c, hc, hr⟩ := run_app_grow (ty := ty) htt ht hi hz hS (base := none) (len := 0) (cap := 0) (old := []) hb hb0 (by omega) (by omega) (fun W _ => run_firstCells_none W i.size 0 0 0)
      rw [Nat.zero_add] at hc hr
      have hlen : ([] ++ new).length = (m + 1) * i.size := by simpa using hS.len
      have hsz := size c (m + 1) [] hc hlen
      obtain ⟨q1, q2⟩ := H.row (w' := w.drew.alloc (.cells ([] ++ new ++ (Builtin.zeroCells z.cells (c - (m + 1))).toList).toArray e)) (Builtin.zeroCells z.cells (c - (m + 1))).toList hl e (fz := (0, 0)) (pl := plainL l) (.inl rfl) (fun _ => rfl) (by simp only [List.nil_append]; rfl) rfl rfl rfl
      have hsz' : new.length + (Builtin.zeroCells z.cells (c - (m + 1))).toList.length = c * i.size := by simpa using hsz
      rw [hsz'] at q1 q2
      refine ⟨_, _, _, hr, fresh c l [] h (m + 1) hc (by simpa using hl) hlen _ rfl, ?_, ?_⟩ <;> (rw [newBlk_eq, Vs_size _ _ hl]; assumption)
  · -- empty
    cases n with
    | zero =>
      have e' : Rv.ok .se h nx = .ok av h' nx' := e'
      obtain ⟨rfl, rfl, rfl⟩ := ok3 e'
      obtain ⟨ad, c, rfl⟩ := hx
      have hnew : new = [] := by have := hS.len; simpa using this
      exact ⟨ρ, _, w, run_app_room htt ht hi hz hS hb (by omega) (by rw [hnew]; rfl), ⟨ad, c, rfl⟩, H, Stp.refl _ _ _⟩
    | succ m => cases e'
  · -- its cap is known
    rename_i id off len cap
    have hx0 := hx
    obtain ⟨g, t', hg, rfl⟩ := hx
    unfold appK at e'
    rw [force_eq] at e'
    cases hroom : Nat.ble (len + n) cap with
    | true =>
      rw [hroom, cond_true] at e'
      have hroom := Nat.le_of_ble_eq_true hroom
      cases e1 : getP id h with
      | none => rw [e1] at e'; cases e'
      | some b =>
        rw [e1] at e'
        cases b with
        | ce tr k rw' pl =>
          replace ⟨k1, e'⟩ := cut1 e' (noBad _)
          obtain ⟨rfl, k2⟩ := and_ok k1
          have k2 := Nat.le_of_ble_eq_true k2
          obtain ⟨rfl, rfl, rfl⟩ := ok3 e'
          obtain ⟨c, ty', fz, c1, c2, c3, -⟩ := getP_ce H e1 hg
          have hfit : off + len * i.size + new.length ≤ k := by rw [hS.len, Nat.add_assoc, ← Nat.add_mul]; exact k2
          obtain ⟨r1, r2, r3⟩ := H.put (P := P) (off := off + len * i.size) e1 hg hl hfl (Nat.le_refl k) c3 hfit
          exact ⟨ρ, _, _, run_app_room htt ht hi hz hS hb hroom (by simp only [add_eq]; exact r1), ⟨g, t', hg, rfl⟩, r2, r3⟩
        | mp _ _ => cases e'
        | ch _ _ _ _ => cases e'
        | it _ _ _ _ => cases e'
    | false =>
      rw [hroom, cond_false] at e'
      have hroom : ¬ len + n ≤ cap := fun q => by rw [Nat.ble_eq_true_of_le q] at hroom; cases hroom
      replace ⟨hneed, e'⟩ := cut1 e' (noBad _)
      have hneed := Nat.le_of_ble_eq_true hneed
      cases e2 : sCells i.size (.sl id off len cap) h with
      | none => rw [e2] at e'; cases e'
      | some lo =>
        rw [e2] at e'
        simp only [grow_eq] at e'
        obtain ⟨rfl, rfl, rfl⟩ := ok3 e'
        obtain ⟨b, m, c0, vs, f1, f2, f3, f4⟩ := sCells_get H hx0 e2
        cases f1
        have hold : ∀ W : World, W.heap = w.heap → (Builtin.firstCells i.size len (.slice (some ⟨g, off, none⟩) len cap)).run P W = .ok vs.toArray W := fun W hW => by
          have := run_loadCells_list (P := P) (w := W) ⟨g, off, none⟩ vs (fun j u hj => by have := f4 j u hj; rw [add_eq] at this ⊢; simpa [World.cell?, hW] using this)
          rw [f3] at this
          simpa [Builtin.firstCells] using this
        obtain ⟨c, hc, hr⟩ := run_app_grow (ty := ty) htt ht hi hz hS hb hb0 hroom hneed hold
        have hlen : (vs ++ new).length = (len + n) * i.size := by rw [List.length_append, f3, hS.len, ← Nat.add_mul]
        have hsz := size c (len + n) vs hc hlen
        have hlv := Vs_app hl lo vs f2
        obtain ⟨q1, q2⟩ := H.row (w' := w.drew.alloc (.cells (vs ++ new ++ (Builtin.zeroCells z.cells (c - (len + n))).toList).toArray e)) (Builtin.zeroCells z.cells (c - (len + n))).toList hlv e (fz := (0, 0)) (pl := plainL (appA lo l)) (.inl rfl) (fun _ => rfl) rfl rfl rfl rfl
        rw [hsz] at q1 q2
        refine ⟨_, _, _, hr, fresh c (appA lo l) vs h (len + n) hc hlv hlen _ rfl, ?_, ?_⟩ <;> (rw [newBlk_eq, Vs_size _ _ hlv]; assumption)
  · -- its cap is not known
    rename_i id off len es
    obtain ⟨g, t', hg, rfl⟩ := hx
    unfold appO at e'
    cases e1 : getP id h with
    | none => rw [e1] at e'; cases e'
    | some b =>
      rw [e1] at e'
      cases b with
      | mp _ _ => cases e'
      | ch _ _ _ _ => cases e'
      | it _ _ _ _ => cases e'
      | ce tr k rw' pl =>
        replace ⟨k1, e'⟩ := cut1 e' (noBad _)
        obtain ⟨rfl, k2, k3⟩ := and3 k1
        have k2 := Nat.eq_of_beq_eq_true k2
        have k3 := Nat.eq_of_beq_eq_true k3
        subst k2 k3
        rw [force_eq] at e'
        obtain ⟨c, ty', fz, c1, c2, c3, c4, c5⟩ := getP_ce H e1 hg
        rw [Nat.sub_zero]
        cases hin : Nat.ble ((len + n) * i.size) k with
        | true =>
          rw [hin, cond_true] at e'
          have hin := Nat.le_of_ble_eq_true hin
          obtain ⟨rfl, rfl, rfl⟩ := ok3 e'
          have hfit : len * i.size + new.length ≤ k := by rw [hS.len, ← Nat.add_mul]; exact hin
          obtain ⟨r1, r2, r3⟩ := H.put (P := P) (off := len * i.size) e1 hg hl hfl (Nat.le_refl k) c3 hfit
          refine ⟨ρ, _, _, run_app_room htt ht hi hz hS hb (by rw [Nat.le_div_iff_mul_le hs0]; omega) (by simp only [add_eq, Nat.zero_add]; exact r1), ⟨g, t', hg, by rw [Nat.sub_zero]⟩, r2, r3⟩
        | false =>
          rw [hin, cond_false] at e'
          have hin : ¬ (len + n) * i.size ≤ k := fun q => by rw [Nat.ble_eq_true_of_le q] at hin; cases hin
          replace ⟨hneed, e'⟩ := cut1 e' (noBad _)
          have hneed := Nat.le_of_ble_eq_true hneed
          -- the old cells, the tree that holds them and the new ones
          have tree : ∃ tr', Rv.ok (.so nx 0 (len + n) i.size) (setP (some (.ce tr' ((len + n) * i.size) true pl)) nx (setP none id h)) nx.succ = .ok av h' nx' ∧ len * i.size ≤ k ∧
              (∀ ex : List Value, CR ρ tr' ((len + n) * i.size) (c.toList.take (len * i.size) ++ new ++ ex).toArray) := by
            cases hk : Nat.beq (len * i.size) k with
            | true =>
              rw [hk, cond_true] at e'
              simp only [force_eq] at e'
              have hk := Nat.eq_of_beq_eq_true hk
              refine ⟨_, e', by omega, fun ex => ?_⟩
              have := CR_more c4 (by omega) hl ex
              rw [← hk, hS.len, ← Nat.add_mul] at this
              exact this
            | false =>
              rw [hk, cond_false] at e'
              cases e2 : cells tr (len * i.size) 0 with
              | none => simp only [e2] at e'; cases e'
              | some lo =>
                simp only [e2, force_eq] at e'
                obtain ⟨vs, v1, v2, v3, v4⟩ := cells_get c4 _ 0 lo e2
                have hle : len * i.size ≤ k := by by_cases q : len * i.size = 0 <;> simp [q] at v3 <;> omega
                have hvs : c.toList.take (len * i.size) = vs := by
                  apply List.ext_getElem?
                  intro j
                  rw [List.getElem?_take]
                  by_cases hj : j < len * i.size
                  · have : j < vs.length := by omega
                    have h5 := v4 j vs[j] (by simp [this])
                    rw [if_pos hj, Array.getElem?_toList, ← Nat.zero_add j, h5]; simp [this]
                  · rw [if_neg hj, List.getElem?_eq_none (by omega)]
                refine ⟨_, e', hle, fun ex => ?_⟩
                rw [hvs]
                have := CR_new (Vs_app hl lo vs v1) ex
                rw [show (vs ++ new).length = (len + n) * i.size by rw [List.length_append, v2, hS.len, ← Nat.add_mul]] at this
                exact this
          obtain ⟨tr', e'', hle, hCR⟩ := tree
          obtain ⟨rfl, rfl, rfl⟩ := ok3 e''
          have hold := firstOld (P := P) (cap := t' / i.size) c1 (es := i.size) (len := len) (by omega)
          by_cases hroom : len + n ≤ t' / i.size
          · have hroom' : (len + n) * i.size ≤ t' := by rw [Nat.le_div_iff_mul_le hs0] at hroom; exact hroom
            have hfit : len * i.size + new.length ≤ (len + n) * i.size := by rw [hS.len, ← Nat.add_mul]; exact Nat.le_refl _
            obtain ⟨r1, r2, r3⟩ := H.putNew (P := P) (tr' := tr') e1 hg hl hfl hroom' hfit (fun c' ee ff q1 => by
              have hcc : c' = c := by rw [c1] at q1; cases q1; rfl
              subst hcc
              have hw : wr c' (len * i.size) new = (c'.toList.take (len * i.size) ++ new ++ c'.toList.drop (len * i.size + new.length)).toArray := by
                apply Array.toList_inj.1
                rw [wr_toList _ _ _ (by omega)]
              rw [hw]; exact hCR _)
            exact ⟨_, _, _, run_app_room htt ht hi hz hS hb hroom (by simp only [add_eq, Nat.zero_add]; exact r1), ⟨g, t', upd_same _ _ _, by rw [Nat.sub_zero]⟩, r2, r3⟩
          · obtain ⟨c', hc, hr⟩ := run_app_grow (ty := ty) htt ht hi hz hS hb hb0 hroom hneed hold
            have hlen : (c.toList.take (len * i.size) ++ new).length = (len + n) * i.size := by
              rw [List.length_append, hS.len, List.length_take, Array.length_toList, Nat.min_eq_left (by omega), ← Nat.add_mul]
            have hsz := size c' (len + n) _ hc hlen
            obtain ⟨q1, q2⟩ := H.allocK (t := c' * i.size) (b := .ce tr' ((len + n) * i.size) true pl) (w' := w.drew.alloc (.cells (c.toList.take (len * i.size) ++ new ++ (Builtin.zeroCells z.cells (c' - (len + n))).toList).toArray e)) id _ rfl rfl rfl rfl
              ⟨_, e, (0, 0), heap_alloc_new w.drew _, by rw [List.size_toArray, List.length_append, hsz], Nat.mul_le_mul_right _ hc, CR_mono (H.ext _) (hCR _) (Nat.le_refl _), fun _ => .inl rfl, fun _ => rfl⟩
            exact ⟨_, _, _, hr, ⟨_, _, upd_same _ _ _, by rw [Nat.sub_zero, Nat.mul_div_cancel _ hs0]⟩, q1, q2⟩
  · cases e'
end
end Go.Ev
end

section
open Go
namespace Go.Ev
section
variable {P : Program} {o : Oper}
theorem ofBy_Vs (ρ : Ren) : ∀ l : List Nat, Vs ρ (ofBy l) (l.map fun n => Value.int .u8 ((n % 256 : Nat) : Int))
  | [] => rfl
  | _ :: l => ⟨_, _, rfl, rfl, ofBy_Vs ρ l⟩
theorem bs_cells (l : List Nat) : ((bsOf l).data.map fun b => Value.int .u8 (b.toNat : Int)) = (l.map fun n => Value.int .u8 ((n % 256 : Nat) : Int)).toArray := by
  apply Array.toList_inj.1
  simp [bsOf]
theorem srcA_run {ρ : Ren} {h : Hp} {nx : Pa} {w : World} (H : HR ρ h nx w) {es n : Nat} {y l : AV} {yv : Value} (hy : V ρ y yv) (e : srcA es y h = some (l, n)) :
    ∃ new : List Value, Vs ρ l new ∧ new.length = n * es ∧ ∀ W : World, W.heap = w.heap → (Builtin.lenOf yv).run P W = .ok n W ∧ (Builtin.firstCells es n yv).run P W = .ok new.toArray W := by
  have sl : ∀ x : AV, V ρ x yv → ∀ m : Nat, (∀ b n' c, yv = .slice b n' c → n' = m) → ∀ l', sCells es x h = some l' → ∃ new : List Value, Vs ρ l' new ∧ new.length = m * es ∧ ∀ W : World, W.heap = w.heap → (Builtin.lenOf yv).run P W = .ok m W ∧ (Builtin.firstCells es m yv).run P W = .ok new.toArray W := fun x hx m hm l' e => by
    obtain ⟨b, n', c, vs, h1, h2, h3, h4⟩ := sCells_get H hx e
    have := hm b n' c h1
    subst this
    subst h1
    refine ⟨vs, h2, h3, fun W hW => ⟨rfl, ?_⟩⟩
    cases b with
    | none =>
      have h4 : n' = 0 := h4
      subst h4
      have : vs = [] := by simpa using h3
      subst this; rfl
    | some ad =>
      have := run_loadCells_list (P := P) (w := W) ad vs (fun j u hj => by have := h4 j u hj; simpa [World.cell?, hW] using this)
      rw [h3] at this
      simpa [Builtin.firstCells] using this
  unfold srcA at e
  split at e
  · rename_i bs
    replace ⟨k1, e⟩ := cutO e
    cases e
    have k1 := Nat.eq_of_beq_eq_true k1
    subst k1
    cases (show yv = _ from hy)
    refine ⟨_, ofBy_Vs ρ bs, by simp [lenL_eq], fun W _ => ⟨by simp [Builtin.lenOf, bsOf_size, lenL_eq], ?_⟩⟩
    have : (bsOf bs).extract 0 (lenL bs) = bsOf bs := by
      rw [lenL_eq, extract_bs _ _ _ (Nat.le_refl _), takeL_eq, dropL_eq]; simp
    simp only [Builtin.firstCells, Sem.run_pure, this, bs_cells]
  · replace ⟨k1, e⟩ := cutO e
    cases e
    have k1 := Nat.eq_of_beq_eq_true k1
    subst k1
    obtain ⟨b0, k0, ts, i1, i2, i3⟩ := hy
    cases (show yv = .string (bsOf [113, 97 + k0 % 8]) from i2)
    have hu : (UInt8.ofNat (97 + k0 % 8)).toNat = (97 + k0 % 8) % 256 := by rw [UInt8.toNat_ofNat']
    refine ⟨[.int .u8 ((113 % 256 : Nat) : Int), .int .u8 (((97 + k0 % 8) % 256 : Nat) : Int)], ⟨_, _, rfl, ⟨113, rfl⟩, _, _, rfl, ⟨UInt8.ofNat (97 + k0 % 8), by rw [hu]⟩, rfl⟩, rfl, fun W _ => ⟨by simp [Builtin.lenOf, bsOf_size], ?_⟩⟩
    have : (bsOf [113, 97 + k0 % 8]).extract 0 2 = bsOf [113, 97 + k0 % 8] := by
      rw [extract_bs _ _ _ (by simp), takeL_eq, dropL_eq]; simp
    simp only [Builtin.firstCells, Sem.run_pure, this, bs_cells]
    rfl
  · cases e; exact sl _ hy 0 (fun b n' c hb => by cases (show yv = _ from hy); cases hb; rfl) _ rfl
  · cases e; exact sl _ hy 0 (fun b n' c hb => by obtain ⟨_, _, hy⟩ := hy; rw [hy] at hb; cases hb; rfl) _ rfl
  · rename_i id off m cap
    cases e1 : sCells es (.sl id off m cap) h with
    | none => rw [e1] at e; cases e
    | some q => rw [e1] at e; cases e; exact sl _ hy n (fun b n' c hb => by obtain ⟨_, _, _, hy⟩ := hy; rw [hy] at hb; cases hb; rfl) _ e1
  · rename_i id off m cap
    cases e1 : sCells es (.so id off m cap) h with
    | none => rw [e1] at e; cases e
    | some q => rw [e1] at e; cases e; exact sl _ hy n (fun b n' c hb => by obtain ⟨_, _, _, hy⟩ := hy; rw [hy] at hb; cases hb; rfl) _ e1
  · cases e
theorem okEl_info {e : TypeId} (h : okEl P e = true) : ∃ i z, P.info? e = some i ∧ i.zero = some z ∧ z.cells.size = i.size ∧ 0 < i.size ∧ 0 < i.bytes ∧ i.bytes ≤ 100000 ∧ szT P e = i.size := by
  unfold okEl at h
  split at h
  · rename_i i hi
    split at h
    · rename_i z hz
      obtain ⟨a, b, c, d⟩ := and4 h
      refine ⟨i, z, hi, hz, Nat.eq_of_beq_eq_true a, Nat.pos_of_ne_zero (fun q => by rw [q] at b; cases b), Nat.pos_of_ne_zero (fun q => by rw [q] at c; cases c), Nat.le_of_ble_eq_true d, by simp [szT, Program.cellsOf, hi]⟩
    · cases h
  · cases h
theorem arr2 {α : Type} {a : Array α} {x y : α} {r : List α} (h : a.toList = x :: y :: r) : a = (x :: y :: r).toArray := by rw [← h]
theorem ok_app {c : Call} {t u el : TypeId} {ts : List TypeId} {x y : Operand} {r : List Operand} {d : TypeDesc} (ho : o.op = .call c) (hc : c.callee = .builtin .append) (h1 : c.argTypes.toList = t :: u :: ts) (h2 : c.args.toList = x :: y :: r)
    (ht : P.underlying t = some (.slice el)) (hel : okEl P el = true) (hu : P.underlying u = some d) (hd : ∀ k, d ≠ .int k) : OpOk P o (on2 (xo x) (xo y) (oApp (szT P el))) := by
  refine .on2 (mem_args ho hc (by rw [h2]; simp)) (mem_args ho hc (by rw [h2]; simp)) fun ρ h nx a w xv yv av h' nx' H hx hy e => ?_
  obtain ⟨i, z, hi, hz, hzs, hs0, hb0, hb, hsz⟩ := okEl_info hel
  rw [hsz] at e
  unfold oApp at e
  cases e1 : srcA i.size yv h with
  | none => rw [e1] at e; cases e
  | some p =>
    rw [e1] at e
    obtain ⟨l, n⟩ := p
    obtain ⟨new, q1, q2, q3⟩ := srcA_run (P := P) H hy e1
    obtain ⟨cs, hr⟩ := run_blt (P := P) ho hc a w
    have a1 := arr2 h1
    have a2 : c.args.map a.eval = #[a.eval x, a.eval y] ++ (r.map a.eval).toArray := by rw [arr2 h2]; simp
    obtain ⟨ρ', v, w', k1, k2, k3, k4⟩ := app2_run (P := P) (ty := o.type) (tt := c.argTypes) (t := t) (by rw [a1]; rfl) ht hi hz hzs hs0 hb hb0 H hx ⟨q2, u, d, by rw [a1]; rfl, hu, .inl ⟨hd, q3⟩⟩ q1 e
    refine ⟨ρ', v, w', .inl ?_, k2, k3, k4⟩
    have k5 : (Builtin.append_ c.argTypes o.type (c.args.map a.eval)).run P w = .ok v w' := by
      rw [a2]; rw [← k1]; simp [Builtin.append_]
    rw [hr]
    simp [builtin, k5]
theorem zeroT_info {e : TypeId} {i : TypeInfo} {z : Value} {zl : AV} (hi : P.info? e = some i) (hz : i.zero = some z) (h : zeroT P e = some zl) (ρ : Ren) : Vs ρ zl z.cells.toList := by
  unfold zeroT at h
  simp [hi, hz] at h
  exact ofVs_V ρ h
theorem repA_Vs {ρ : Ren} {z : AV} {zs : List Value} (h : Vs ρ z zs) : ∀ n, Vs ρ (repA n z) (List.replicate n zs).flatten
  | 0 => rfl
  | n + 1 => by
    show Vs ρ (appA z (repA n z)) _
    rw [List.replicate_succ, List.flatten_cons]
    exact Vs_app (repA_Vs h n) z zs h
theorem zeroCells_list (z : Array Value) (hz : 0 < z.size) (n : Nat) : (Builtin.zeroCells z n).toList = (List.replicate n z.toList).flatten := by
  apply List.ext_getElem?
  intro j
  have hl : (Builtin.zeroCells z n).toList.length = n * z.size := by rw [Array.length_toList, size_zeroCells]
  have hr : (List.replicate n z.toList).flatten.length = n * z.size := by simp [List.length_flatten]
  by_cases hj : j < n * z.size
  · have hm : j % z.size < z.size := Nat.mod_lt _ hz
    have h1 : (Builtin.zeroCells z n).toList[j]? = some z[j % z.size] := by
      rw [Array.getElem?_toList]
      unfold Builtin.zeroCells
      simp [hj, getElem!_pos z (j % z.size) hm]
    rw [h1]
    symm
    clear h1 hl hr
    induction n generalizing j with
    | zero => simp at hj
    | succ n ih =>
      rw [List.replicate_succ, List.flatten_cons]
      by_cases hc : j < z.size
      · rw [List.getElem?_append_left (by simpa using hc)]
        simp [Nat.mod_eq_of_lt hc, hc]
      · rw [List.getElem?_append_right (by simpa using hc), Array.length_toList]
        have e1 : (j - z.size) % z.size = j % z.size := by rw [← Nat.mod_eq_sub_mod (by omega)]
        have := ih (j - z.size) (by rw [Nat.add_mul] at hj; omega) (Nat.mod_lt _ hz)
        simp only [e1] at this
        exact this
  · rw [List.getElem?_eq_none (by omega), List.getElem?_eq_none (by omega)]
theorem ok_appz {c : Call} {t u el : TypeId} {ts : List TypeId} {x y : Operand} {r : List Operand} {kd : IntKind} {zl : AV} (ho : o.op = .call c) (hc : c.callee = .builtin .append) (h1 : c.argTypes.toList = t :: u :: ts) (h2 : c.args.toList = x :: y :: r)
    (ht : P.underlying t = some (.slice el)) (hel : okEl P el = true) (hu : P.underlying u = some (.int kd)) (hzl : zeroT P el = some zl) : OpOk P o (on2 (xo x) (xo y) (oAppz (szT P el) zl)) := by
  refine .on2 (mem_args ho hc (by rw [h2]; simp)) (mem_args ho hc (by rw [h2]; simp)) fun ρ h nx a w xv yv av h' nx' H hx hy e => ?_
  obtain ⟨i, z, hi, hz, hzs, hs0, hb0, hb, hsz⟩ := okEl_info hel
  rw [hsz] at e
  unfold oAppz at e
  split at e
  · rename_i k n
    replace ⟨k0, e⟩ := cut1 e (noBad _)
    have k0 := Nat.le_of_ble_eq_true k0
    rw [force_eq] at e
    have hy : a.eval y = .int k (n : Int) := hy
    have hzV := zeroT_info hi hz hzl ρ
    have hnew := repA_Vs hzV n
    obtain ⟨cs, hr⟩ := run_blt (P := P) ho hc a w
    have a1 := arr2 h1
    have a2 : c.args.map a.eval = #[a.eval x, a.eval y] ++ (r.map a.eval).toArray := by rw [arr2 h2]; simp
    have hlen : (List.replicate n z.cells.toList).flatten.length = n * i.size := by simp [List.length_flatten, hzs]
    obtain ⟨ρ', v, w', k1, k2, k3, k4⟩ := app2_run (P := P) (ty := o.type) (tt := c.argTypes) (t := t) (by rw [a1]; rfl) ht hi hz hzs hs0 hb hb0 H hx (new := (List.replicate n z.cells.toList).flatten) (yv := a.eval y)
      ⟨hlen, u, .int kd, by rw [a1]; rfl, hu, .inr ⟨⟨kd, rfl⟩, by omega, ⟨k, hy⟩, by
        by_cases hn : n * i.size = 0
        · rw [if_pos hn]; have := hlen.trans hn; simp only [List.length_eq_zero_iff] at this; rw [this]
        · rw [if_neg hn]; apply Array.toList_inj.1; rw [zeroCells_list _ (by omega)]⟩⟩ hnew e
    refine ⟨ρ', v, w', .inl ?_, k2, k3, k4⟩
    have k5 : (Builtin.append_ c.argTypes o.type (c.args.map a.eval)).run P w = .ok v w' := by
      rw [a2]; rw [← k1]; simp [Builtin.append_]
    rw [hr]
    simp [builtin, k5]
  · cases e
end
end Go.Ev
end

section
open Go
namespace Go.Ev
section
variable {P : Program} {o : Oper}
theorem srcA_first {ρ : Ren} {h : Hp} {nx : Pa} {w : World} (H : HR ρ h nx w) {es n m : Nat} {y l : AV} {yv : Value} (hy : V ρ y yv) (e : srcA es y h = some (l, n)) (hm : m ≤ n) :
    ∃ new : List Value, Vs ρ (takeA (m * es) l) new ∧ new.length = m * es ∧ (Builtin.lenOf yv).run P w = .ok n w ∧ (Builtin.firstCells es m yv).run P w = .ok new.toArray w := by
  obtain ⟨full, q1, q2, q3⟩ := srcA_run (P := P) H hy e
  have hle : m * es ≤ n * es := Nat.mul_le_mul_right _ hm
  refine ⟨full.take (m * es), Vs_take _ _ _ q1, by rw [List.length_take, q2]; omega, (q3 w rfl).1, ?_⟩
  have sl : ∀ x : AV, V ρ x yv → ∀ l', sCells es x h = some l' → Vs ρ l' full → ∀ b c, yv = .slice b n c → (Builtin.firstCells es m yv).run P w = .ok (full.take (m * es)).toArray w := fun x hx l' e hl' b c hyv => by
    obtain ⟨b', n', c', vs, h1, h2, h3, h4⟩ := sCells_get H hx e
    rw [hyv] at h1; cases h1
    have hvs : (Builtin.firstCells es n yv).run P w = .ok vs.toArray w := by
      rw [hyv]
      cases b with
      | none =>
        have h4 : n = 0 := h4
        subst h4
        have : vs = [] := by simpa using h3
        subst this; rfl
      | some ad =>
        have := run_loadCells_list (P := P) (w := w) ad vs h4
        rw [h3] at this
        simpa [Builtin.firstCells] using this
    have hf : vs = full := by
      have := (q3 w rfl).2
      rw [hvs] at this
      have : vs.toArray = full.toArray := by injection this
      simpa using this
    subst hf
    rw [hyv]
    cases b with
    | none =>
      have h4 : n = 0 := h4
      subst h4
      have : m = 0 := by omega
      subst this; simp [Builtin.firstCells]
    | some ad =>
      have := run_loadCells_list (P := P) (w := w) ad (vs.take (m * es)) (fun j u hj => h4 j u (by rw [List.getElem?_take] at hj; split at hj <;> first | exact hj | cases hj))
      rw [show (vs.take (m * es)).length = m * es by rw [List.length_take, h3]; omega] at this
      simpa [Builtin.firstCells] using this
  unfold srcA at e
  split at e
  · rename_i bs
    replace ⟨k1, e⟩ := cutO e
    cases e
    have k1 := Nat.eq_of_beq_eq_true k1
    subst k1
    cases (show yv = _ from hy)
    have hf : full = bs.map fun n => Value.int .u8 ((n % 256 : Nat) : Int) := by
      have h1 := (q3 w rfl).2
      have : (bsOf bs).extract 0 (lenL bs) = bsOf bs := by
        rw [lenL_eq, extract_bs _ _ _ (Nat.le_refl _), takeL_eq, dropL_eq]; simp
      simp only [Builtin.firstCells, Sem.run_pure, this, bs_cells] at h1
      have : (bs.map fun n => Value.int .u8 ((n % 256 : Nat) : Int)).toArray = full.toArray := by injection h1
      exact (by simpa using this : _ = full).symm
    subst hf
    rw [lenL_eq] at hm
    have h2 : (bsOf bs).extract 0 m = bsOf (bs.take m) := by rw [extract_bs _ _ _ hm, takeL_eq, dropL_eq]; simp
    simp only [Builtin.firstCells, Sem.run_pure, h2, bs_cells, Nat.mul_one, List.map_take]
  · replace ⟨k1, e⟩ := cutO e
    cases e
    have k1 := Nat.eq_of_beq_eq_true k1
    subst k1
    obtain ⟨b0, k0, ts, i1, i2, i3⟩ := hy
    obtain ⟨bs, hbs⟩ : ∃ bs : List Nat, [113, 97 + k0 % 8] = bs := ⟨_, rfl⟩
    have hl : bs.length = 2 := by rw [← hbs]; rfl
    cases (show yv = .string (bsOf bs) by rw [i2, ← hbs]; rfl)
    have hf : full = bs.map fun n => Value.int .u8 ((n % 256 : Nat) : Int) := by
      have h1 := (q3 w rfl).2
      have : (bsOf bs).extract 0 2 = bsOf bs := by
        rw [extract_bs _ _ _ (by omega), takeL_eq, dropL_eq]
        show bsOf (bs.take 2) = bsOf bs
        rw [← hl, List.take_length]
      simp only [Builtin.firstCells, Sem.run_pure, this, bs_cells] at h1
      have : (bs.map fun n => Value.int .u8 ((n % 256 : Nat) : Int)).toArray = full.toArray := by injection h1
      exact (by simpa using this : _ = full).symm
    subst hf
    have h2 : (bsOf bs).extract 0 m = bsOf (bs.take m) := by rw [extract_bs _ _ _ (by omega), takeL_eq, dropL_eq]; simp
    simp only [Builtin.firstCells, Sem.run_pure, h2, bs_cells, Nat.mul_one, List.map_take]
  · cases e
    cases (show yv = _ from hy)
    exact sl _ hy .nl rfl q1 none 0 rfl
  · cases e
    have hy' := hy
    obtain ⟨ad, c, rfl⟩ := hy
    exact sl _ hy' .nl rfl q1 _ _ rfl
  · rename_i id off k cap
    cases e1 : sCells es (.sl id off k cap) h with
    | none => rw [e1] at e; cases e
    | some q => rw [e1] at e; cases e; have hy' := hy; obtain ⟨_, _, _, rfl⟩ := hy; exact sl _ hy' _ e1 q1 _ _ rfl
  · rename_i id off k cap
    cases e1 : sCells es (.so id off k cap) h with
    | none => rw [e1] at e; cases e
    | some q => rw [e1] at e; cases e; have hy' := hy; obtain ⟨_, _, _, rfl⟩ := hy; exact sl _ hy' _ e1 q1 _ _ rfl
  · cases e
theorem flat_take : ∀ (n : Nat) (l : AV), flatA l = true → flatA (takeA n l) = true
  | 0, _, _ => rfl
  | n + 1, .cn x y, h => by
    have h : (bif isFlat x then flatA y else false) = true := h
    show (bif isFlat x then flatA (takeA n y) else false) = true
    cases hx : isFlat x with
    | false => rw [hx] at h; cases h
    | true => rw [hx] at h; exact flat_take n y h
  | _ + 1, .nl, _ => rfl
  | _ + 1, .b _, h => by cases h
  | _ + 1, .i _ _, h => by cases h
  | _ + 1, .s _, h => by cases h
  | _ + 1, .np, h => by cases h
  | _ + 1, .p _ _, h => by cases h
  | _ + 1, .ns, h => by cases h
  | _ + 1, .se, h => by cases h
  | _ + 1, .sl _ _ _ _, h => by cases h
  | _ + 1, .so _ _ _ _, h => by cases h
  | _ + 1, .nm, h => by cases h
  | _ + 1, .m _, h => by cases h
  | _ + 1, .nc, h => by cases h
  | _ + 1, .c _, h => by cases h
  | _ + 1, .nf, h => by cases h
  | _ + 1, .f _ _ _, h => by cases h
  | _ + 1, .ag _, h => by cases h
  | _ + 1, .tp _, h => by cases h
  | _ + 1, .uk, h => by cases h
  | _ + 1, .y _ _ _, h => by cases h
theorem ok_cpy {c : Call} {t el : TypeId} {ts : List TypeId} {x y : Operand} {r : List Operand} (ho : o.op = .call c) (hc : c.callee = .builtin .copy) (h1 : c.argTypes.toList = t :: ts) (h2 : c.args.toList = x :: y :: r)
    (ht : P.underlying t = some (.slice el)) (hi : ∃ i, P.info? el = some i) : OpOk P o (on2 (xo x) (xo y) (oCpy (szT P el))) := by
  refine .on2 (mem_args ho hc (by rw [h2]; simp)) (mem_args ho hc (by rw [h2]; simp)) fun ρ h nx a w xv yv av h' nx' H hx hy e => ?_
  obtain ⟨i, hi⟩ := hi
  obtain ⟨cs, hr⟩ := run_blt (P := P) ho hc a w
  have a1 : c.argTypes = (t :: ts).toArray := by rw [← h1]
  have a2 : c.args.map a.eval = (a.eval x :: a.eval y :: r.map a.eval).toArray := by rw [arr2 h2]; simp
  unfold oCpy at e
  cases e1 : dstLen xv with
  | none => rw [e1] at e; cases e
  | some d =>
    rw [e1] at e
    cases e2 : srcA (szT P el) yv h with
    | none => simp only [e2] at e; cases e
    | some p =>
      obtain ⟨l, n⟩ := p
      simp only [e2, force_eq] at e
      obtain ⟨new, q1, q2, q3, q4⟩ := srcA_first (P := P) H hy e2 (m := Nat.min n d) (Nat.min_le_left _ _)
      have run : ∀ (b : Option Addr) (cp : Nat) (w' : World), a.eval x = .slice b d cp → (match b with | none => w' = w | some ad => (storeCells ad new).run P w = .ok () w') → (execOp a.eval o).run P w = .ok (.value (goInt (Nat.min n d : Nat))) w' := fun b cp w' hb hst => by
        rw [hr, a1, a2]
        have k : (Builtin.copy_ (t :: ts).toArray o.type (a.eval x :: a.eval y :: r.map a.eval).toArray).run P w = .ok (goInt (Nat.min n d : Nat)) w' := by
          simp only [Builtin.copy_, hb]
          simp only [List.getElem?_toArray, List.getElem?_cons_zero, List.getElem?_cons_succ, Sem.run_bind, underlying_some ht, Result.andThen_ok, q3, sizeOf_run hi, q4]
          cases b with
          | none => cases hst; rfl
          | some ad => simp [hst]
        simp [builtin, k]
      have nil_of : Nat.min n d = 0 → new = [] := fun q => by rw [q] at q2; simpa using q2
      cases hmin : Nat.min n d with
      | zero =>
        rw [hmin] at e
        have e : Rv.ok (g64 0) h nx = .ok av h' nx' := e
        obtain ⟨rfl, rfl, rfl⟩ := ok3 e
        have hnew := nil_of hmin
        have hv : V ρ (g64 0) (goInt ((Nat.min n d : Nat) : Int)) := by rw [hmin, g64_eq]; rfl
        unfold dstLen at e1
        split at e1 <;> cases e1
        · exact same H (run none 0 w hx rfl) hv
        · obtain ⟨b, q, hx⟩ := hx; exact same H (run (some b) q w hx (by rw [hnew]; rfl)) hv
        · obtain ⟨b, q, _, hx⟩ := hx; exact same H (run _ _ w hx (by rw [hnew]; rfl)) hv
        · obtain ⟨b, q, _, hx⟩ := hx; exact same H (run _ _ w hx (by rw [hnew]; rfl)) hv
      | succ m =>
        rw [hmin] at e q1 q2
        simp only at e
        have put : ∀ (id : Pa) (off : Nat) (b : Nat) (tt : Nat), ρ id = some (b, tt) → ∀ (cp : Nat), a.eval x = .slice (some ⟨b, off, none⟩) d cp →
            (Option.casesOn (getP id h) (.bad 61) fun b => Blk.casesOn b (fun t m' rw pl => bif rw && flatA l && Nat.ble (off + (m + 1) * szT P el) m' then .ok (g64 (m + 1)) (setP (some (.ce (putCells (takeA ((m + 1) * szT P el) l) off t) m' true pl)) id h) nx else .bad 61) (fun _ _ => .bad 61) (fun _ _ _ _ => .bad 61) (fun _ _ _ _ => .bad 61)) = Rv.ok av h' nx' →
            ∃ ρ' v w', Yld P o a w v w' ∧ V ρ' av v ∧ HR ρ' h' nx' w' ∧ Stp ρ h w ρ' h' w' := fun id off b tt hg cp hb e => by
          cases e3 : getP id h with
          | none => rw [e3] at e; cases e
          | some bl =>
            rw [e3] at e
            cases bl with
            | mp _ _ => cases e
            | ch _ _ _ _ => cases e
            | it _ _ _ _ => cases e
            | ce tr k rw' pl =>
              replace ⟨k1, e⟩ := cut1 e (noBad _)
              obtain ⟨rfl, k2, k3⟩ := and3 k1
              have k3 := Nat.le_of_ble_eq_true k3
              obtain ⟨rfl, rfl, rfl⟩ := ok3 e
              obtain ⟨c0, ty', fz, c1, c2, c3, -⟩ := getP_ce H e3 hg
              obtain ⟨r1, r2, r3⟩ := H.put (P := P) (off := off) e3 hg q1 (flat_take _ _ k2) (Nat.le_refl k) c3 (by omega)
              exact ⟨ρ, _, _, .inl (run _ cp _ hb r1), by rw [hmin, g64_eq]; rfl, r2, r3⟩
        split at e
        · obtain ⟨b, tt, hg, hx⟩ := hx
          cases e1
          exact put _ _ b tt hg _ hx e
        · obtain ⟨b, tt, hg, hx⟩ := hx
          cases e1
          exact put _ _ b tt hg _ hx e
        · cases e
end
end Go.Ev
end

section
open Go
namespace Go.Ev
section
variable {P : Program} {o : Oper}
theorem HR.congr {ρ : Ren} {h h' : Hp} {nx : Pa} {w : World} (H : HR ρ h nx w) (e : ∀ id, getP id h' = getP id h) : HR ρ h' nx w :=
  ⟨H.dom, fun id b hb => H.blk id b (by rw [← e]; exact hb), fun i i' b b' g t t' e1 e2 => H.inj i i' b b' g t t' (by rw [← e]; exact e1) (by rw [← e]; exact e2)⟩
theorem Own.congr {ρ : Ren} {h h' : Hp} (e : ∀ id, getP id h' = getP id h) {g : Nat} (x : Own ρ h' g) : Own ρ h g := by
  obtain ⟨i, b, t, h1, h2, h3⟩ := x; exact ⟨i, b, t, by rw [← e]; exact h1, h2, h3⟩
theorem Stp.congr {ρ ρ' : Ren} {h h' h'' : Hp} {w w' : World} (s : Stp ρ h w ρ' h' w') (e : ∀ id, getP id h'' = getP id h') : Stp ρ h w ρ' h'' w' :=
  ⟨s.ext, s.os, s.tape, s.output, s.size, s.keep, fun g x => s.own g (x.congr e), fun g ⟨i, b, t, h1, h2⟩ => s.live g ⟨i, b, t, by first | (rw [e]; exact h1) | (rw [← e]; exact h1), h2⟩⟩
theorem flat_app : ∀ (a b : AV), flatA a = true → flatA b = true → flatA (appA a b) = true
  | .nl, _, _, hb => hb
  | .cn x y, b, h, hb => by
    have h : (bif isFlat x then flatA y else false) = true := h
    show (bif isFlat x then flatA (appA y b) else false) = true
    cases hx : isFlat x with
    | false => rw [hx] at h; cases h
    | true => rw [hx] at h; exact flat_app y b h hb
  | .b _, _, h, _ => by cases h
  | .i _ _, _, h, _ => by cases h
  | .s _, _, h, _ => by cases h
  | .np, _, h, _ => by cases h
  | .p _ _, _, h, _ => by cases h
  | .ns, _, h, _ => by cases h
  | .se, _, h, _ => by cases h
  | .sl _ _ _ _, _, h, _ => by cases h
  | .so _ _ _ _, _, h, _ => by cases h
  | .nm, _, h, _ => by cases h
  | .m _, _, h, _ => by cases h
  | .nc, _, h, _ => by cases h
  | .c _, _, h, _ => by cases h
  | .nf, _, h, _ => by cases h
  | .f _ _ _, _, h, _ => by cases h
  | .ag _, _, h, _ => by cases h
  | .tp _, _, h, _ => by cases h
  | .uk, _, h, _ => by cases h
  | .y _ _ _, _, h, _ => by cases h
theorem flat_rep (z : AV) (h : flatA z = true) : ∀ n, flatA (repA n z) = true
  | 0 => rfl
  | n + 1 => flat_app z (repA n z) h (flat_rep z h n)
theorem ok_clr {c : Call} {t el : TypeId} {ts : List TypeId} {x : Operand} {r : List Operand} {zl : AV} (ho : o.op = .call c) (hc : c.callee = .builtin .clear) (h1 : c.argTypes.toList = t :: ts) (h2 : c.args.toList = x :: r)
    (ht : P.underlying t = some (.slice el)) (hel : okEl P el = true) (hzl : zeroT P el = some zl) : OpOk P o (on1 (xo x) (oClr (szT P el) zl)) := by
  refine .on1 (mem_args ho hc (by rw [h2]; simp)) fun ρ h nx a w xv av h' nx' H hx e => ?_
  obtain ⟨i, z, hi, hz, hzs, hs0, hb0, hb, hsz⟩ := okEl_info hel
  rw [hsz] at e
  obtain ⟨cs, hr⟩ := run_blt (P := P) ho hc a w
  have a1 : c.argTypes = (t :: ts).toArray := by rw [← h1]
  have a2 : c.args.map a.eval = (a.eval x :: r.map a.eval).toArray := by rw [show c.args = (x :: r).toArray by rw [← h2]]; simp
  have none0 : ∀ (b : Option Addr) (cp : Nat), a.eval x = .slice b 0 cp → (execOp a.eval o).run P w = .ok (.value (.tuple #[])) w := fun b cp hb => by
    rw [hr, a1, a2, hb]
    cases b <;> simp [builtin, Builtin.clear_, underlying_some ht]
  have tpV : V ρ (.tp .nl) (.tuple #[]) := ⟨[], rfl, rfl⟩
  have hzV := zeroT_info hi hz hzl ρ
  have put : ∀ (id : Pa) (off : Nat) (b : Nat) (tt : Nat), ρ id = some (b, tt) → ∀ (cp m : Nat), a.eval x = .slice (some ⟨b, off, none⟩) (m + 1) cp →
      (Option.casesOn (getP id h) (.bad 63) fun b => Blk.casesOn b (fun t n rw pl => bif rw && flatA zl && Nat.beq (sizeA zl) i.size && Nat.ble (off + (m + 1) * i.size) n then .ok (.tp .nl) (setP (some (.ce (putCells (repA (m + 1) zl) off t) n true pl)) id h) nx else .bad 63) (fun _ _ => .bad 63) (fun _ _ _ _ => .bad 63) (fun _ _ _ _ => .bad 63)) = Rv.ok av h' nx' →
      ∃ ρ' v w', Yld P o a w v w' ∧ V ρ' av v ∧ HR ρ' h' nx' w' ∧ Stp ρ h w ρ' h' w' := fun id off b tt hg cp m hb e => by
    cases e3 : getP id h with
    | none => rw [e3] at e; cases e
    | some bl =>
      rw [e3] at e
      cases bl with
      | mp _ _ => cases e
      | ch _ _ _ _ => cases e
      | it _ _ _ _ => cases e
      | ce tr k rw' pl =>
        replace ⟨k1, e⟩ := cut1 e (noBad _)
        obtain ⟨rfl, k2, k3, k4⟩ := and4 k1
        have k4 := Nat.le_of_ble_eq_true k4
        obtain ⟨rfl, rfl, rfl⟩ := ok3 e
        obtain ⟨c0, ty', fz, c1, c2, c3, -⟩ := getP_ce H e3 hg
        have hlen : (List.replicate (m + 1) z.cells.toList).flatten.length = (m + 1) * i.size := by simp [List.length_flatten, hzs]
        obtain ⟨r1, r2, r3⟩ := H.put (P := P) (off := off) e3 hg (repA_Vs hzV (m + 1)) (flat_rep zl k2 (m + 1)) (Nat.le_refl k) c3 (by omega)
        refine ⟨ρ, _, _, .inl ?_, tpV, r2, r3⟩
        rw [hr, a1, a2, hb]
        rw [← zeroCells_list _ (by omega)] at r1 ⊢
        simp [builtin, Builtin.clear_, underlying_some ht, zeroValue, typeInfo, hi, hz, r1]
  unfold oClr at e
  split at e
  · obtain ⟨rfl, rfl, rfl⟩ := ok3 e; exact same H (none0 none 0 hx) tpV
  · obtain ⟨rfl, rfl, rfl⟩ := ok3 e; obtain ⟨b, q, hx⟩ := hx; exact same H (none0 _ q hx) tpV
  · rename_i id off len cp
    obtain ⟨b, tt, hg, hx⟩ := hx
    cases len with
    | zero => have e : Rv.ok (.tp .nl) h nx = .ok av h' nx' := e; obtain ⟨rfl, rfl, rfl⟩ := ok3 e; exact same H (none0 _ _ hx) tpV
    | succ m => exact put id off b tt hg cp m hx e
  · rename_i id off len cp
    obtain ⟨b, tt, hg, hx⟩ := hx
    cases len with
    | zero => have e : Rv.ok (.tp .nl) h nx = .ok av h' nx' := e; obtain ⟨rfl, rfl, rfl⟩ := ok3 e; exact same H (none0 _ _ hx) tpV
    | succ m => exact put id off b tt hg _ m hx e
  · cases e
theorem modify_push {α : Type} (a : Array α) (x : α) (f : α → α) : (a.push x).modify a.size f = a.push (f x) := by
  apply Array.ext_getElem?
  intro j
  rw [Array.getElem?_modify, Array.getElem?_push, Array.getElem?_push]
  by_cases h : j = a.size
  · subst h; simp
  · simp [h, Ne.symm h]
theorem ok_s2b {s d e' : TypeId} {x : Operand} (ho : o.op = .convert s d x) (hs : P.underlying s = some .string) (hd : P.underlying d = some (.slice e')) (he : P.underlying e' = some (.int .u8)) : OpOk P o (on1 (xo x) oS2b) := by
  refine .on1 (by simp [ho, Op.operands]) fun ρ h nx a w xv av h' nx' H hx e => ?_
  unfold oS2b at e
  split at e
  · rename_i l
    rw [force_eq] at e
    obtain ⟨rfl, rfl, rfl⟩ := ok3 e
    have hx : a.eval x = .string (bsOf l) := hx
    let cap := (Question.appendCap l.length 0 e').cut (w.tape w.drawn (.appendCap l.length 0 e'))
    have hcap : l.length ≤ cap := by simp [cap, Question.cut]
    have hv := ofBy_Vs ρ l
    have hlen : (l.map fun n => Value.int .u8 ((n % 256 : Nat) : Int)).length = l.length := by simp
    let ex : List Value := List.replicate (cap - l.length) (.int .u8 0)
    have hex : l.length + ex.length = cap := by simp [ex]; omega
    let w' : World := { w.drew with heap := w.heap.push (.cells ((l.map fun n => Value.int .u8 ((n % 256 : Nat) : Int)) ++ ex).toArray e' (cap, cap + 1)) }
    obtain ⟨q1, q2⟩ := H.row (w' := w') ex hv e' (fz := (cap, cap + 1)) (pl := false) (.inr (by rw [hlen, hex]; exact Nat.le_refl _)) (fun q => by cases q) rfl rfl rfl rfl
    rw [hlen, hex] at q1 q2
    rw [lenL_eq]
    refine ⟨_, .slice (some ⟨w.heap.size, 0, none⟩) l.length cap, w', .inl ?_, ⟨_, _, upd_same _ _ _, by rw [Nat.sub_zero, Nat.div_one]⟩, q1, q2⟩
    have hf : (Question.appendCap l.length 0 e').forced = false := rfl
    have h8 : ((bsOf l).data.map fun b => Value.int .u8 (b.toNat : Int)) ++ Array.replicate (cap - l.length) (Value.int .u8 0) = ((l.map fun n => Value.int .u8 ((n % 256 : Nat) : Int)) ++ ex).toArray := by
      rw [bs_cells]; apply Array.toList_inj.1; simp [ex]
    have h9 : (Conv.stringToBytes e' (bsOf l)).run P w = .ok (.slice (some ⟨w.heap.size, 0, none⟩) l.length cap) w' := by
      simp only [Conv.stringToBytes, Sem.run_bind, run_choose, bsOf_size, hf, Bool.false_eq_true, if_false, World.drew_eq, Result.andThen_ok]
      show ((newRow e' (((bsOf l).data.map fun b => Value.int .u8 (b.toNat : Int)) ++ Array.replicate (cap - l.length) (Value.int .u8 0))).run P w.drew).andThen _ = _
      rw [h8]
      simp only [newRow, Sem.run_bind, run_newObj, Result.andThen_ok, Sem.run_pure, markStringish, run_shape, World.size_drew]
      have h10 : ({ w.drew with heap := w.drew.heap.push (.cells ((l.map fun n => Value.int .u8 ((n % 256 : Nat) : Int)) ++ ex).toArray e') } : World).shape? w.heap.size = some (e', cap) := by
        simp only [World.shape?]
        show (match (w.heap.push _)[w.heap.size]? with | some (.cells c elem _) => some (elem, c.size) | _ => none) = _
        simp [hex]
      rw [h10]
      simp only [run_freeze, Result.andThen_ok]
      congr 1
      simp only [World.freeze]
      rw [if_neg (by omega)]
      show ({ w.drew with heap := (w.heap.push _).modify w.heap.size _ } : World) = _
      rw [modify_push]
      rfl
    simp only [execOp, ho, hx, convert, Sem.run_bind, underlying_some hs, underlying_some hd, underlying_some he, Result.andThen_ok, h9, Sem.run_pure]
  · cases e
theorem cbb_run {ρ : Ren} {h : Hp} {nx : Pa} {w : World} (H : HR ρ h nx w) {id : Pa} {tr : T AV} {n g t off : Nat} (hid : getP id h = some (.ce tr n true false)) (hg : ρ id = some (g, t)) :
    ∃ w', (markStringish ⟨g, off, none⟩).run P w = .ok () w' ∧ HR ρ h nx w' ∧ Stp ρ h w ρ h w' := by
  obtain ⟨c, e, fz, h1, h2, h3, h4, h5, -⟩ := getP_ce H hid hg
  let fz' : Nat × Nat := if fz.1 == fz.2 then (t, t + 1) else (min fz.1 t, max fz.2 (t + 1))
  have hs : w.shape? g = some (e, t) := by simp [World.shape?, h1, h2]
  have hh : (w.freeze ⟨g, t, none⟩ 1).heap[g]? = some (.cells c e fz') := by
    simp only [World.freeze]
    rw [if_neg (by omega)]
    show (w.heap.modify g _)[g]? = _
    rw [Array.getElem?_modify, if_pos rfl, h1]
    rfl
  have ho : ∀ k, k ≠ g → (w.freeze ⟨g, t, none⟩ 1).heap[k]? = w.heap[k]? := fun k hk => by
    simp only [World.freeze]
    rw [if_neg (by omega)]
    show (w.heap.modify g _)[k]? = _
    rw [Array.getElem?_modify, if_neg (Ne.symm hk)]
  have hz : (w.freeze ⟨g, t, none⟩ 1).heap.size = w.heap.size := by
    simp only [World.freeze]
    rw [if_neg (by omega)]
    show (w.heap.modify g _).size = _
    simp
  have hfz : fz'.1 = fz'.2 ∨ t ≤ fz'.1 := by
    have := h5 rfl
    by_cases q : fz.1 = fz.2
    · simp [fz', q]
    · have q' : (fz.1 == fz.2) = false := by simpa using q
      simp only [fz', q', Bool.false_eq_true, if_false]
      omega
  have hw : (w.freeze ⟨g, t, none⟩ 1).os = w.os ∧ (w.freeze ⟨g, t, none⟩ 1).tape = w.tape ∧ (w.freeze ⟨g, t, none⟩ 1).output = w.output := by
    simp only [World.freeze]; rw [if_neg (by omega)]; exact ⟨rfl, rfl, rfl⟩
  obtain ⟨r1, r2⟩ := H.write (b' := .ce tr n true false) hid rfl hg ho hz hw.1 hw.2.1 hw.2.2 ⟨c, e, fz', hh, h2, h3, h4, fun _ => hfz, fun q => by cases q⟩
  have hsame : ∀ i, getP i h = getP i (setP (some (.ce tr n true false)) id h) := fun i => by
    rcases get_set' (some (Blk.ce tr n true false)) i id h with ⟨k1, k2⟩ | ⟨k1, k2⟩
    · rw [k1, k2, hid]
    · rw [k1]
  refine ⟨_, ?_, r1.congr hsame, r2.congr hsame⟩
  simp [markStringish, hs]
theorem ok_cbb {s d es e' : TypeId} {x : Operand} (ho : o.op = .convert s d x) (hs : P.underlying s = some (.slice es)) (hd : P.underlying d = some (.slice e')) (hsd : (s == d) = true) (he : P.underlying e' = some (.int .u8)) : OpOk P o (on1 (xo x) oCbb) := by
  refine .on1 (by simp [ho, Op.operands]) fun ρ h nx a w xv av h' nx' H hx e => ?_
  have key : ∀ (id : Pa) (g t off len cp : Nat), ρ id = some (g, t) → a.eval x = .slice (some ⟨g, off, none⟩) len cp →
      (Option.casesOn (getP id h) (.bad 22) fun b => Blk.casesOn b (fun _ _ rw pl => bif rw && !pl then .ok xv h nx else .bad 22) (fun _ _ => .bad 22) (fun _ _ _ _ => .bad 22) (fun _ _ _ _ => .bad 22)) = Rv.ok av h' nx' →
      ∃ ρ' v w', Yld P o a w v w' ∧ V ρ' av v ∧ HR ρ' h' nx' w' ∧ Stp ρ h w ρ' h' w' := fun id g t off len cp hg hb e => by
    cases e1 : getP id h with
    | none => rw [e1] at e; cases e
    | some b =>
      rw [e1] at e
      cases b with
      | mp _ _ => cases e
      | ch _ _ _ _ => cases e
      | it _ _ _ _ => cases e
      | ce tr n rw' pl =>
        replace ⟨k1, k2, e⟩ := cut2 e (noBad _)
        have k1 : rw' = true := k1
        subst k1
        cases pl with
        | true => cases k2
        | false =>
          obtain ⟨rfl, rfl, rfl⟩ := ok3 e
          obtain ⟨w', r1, r2, r3⟩ := cbb_run (P := P) (off := off) H e1 hg
          refine ⟨ρ, a.eval x, w', .inl ?_, hx, r2, r3⟩
          simp only [execOp, ho, hb, convert, Sem.run_bind, underlying_some hs, underlying_some hd, underlying_some he, hsd, Result.andThen_ok, r1, Sem.run_pure]
  unfold oCbb at e
  split at e
  · have hx' := hx; obtain ⟨b, tt, hg, hx'⟩ := hx'; exact key _ b tt _ _ _ hg hx' e
  · have hx' := hx; obtain ⟨b, tt, hg, hx'⟩ := hx'; exact key _ b tt _ _ _ hg hx' e
  · cases e
end
end Go.Ev
end

section
open Go
namespace Go.Ev
section
variable {P : Program} {o : Oper}
theorem fold_wr : ∀ (l : List Value) (off j : Nat) (c : Array Value), ((l.zipIdx j).foldl (fun (cs : Array Value) (p : Value × Nat) => cs.setIfInBounds (off + p.2) p.1) c) = wr c (off + j) l
  | [], _, _, _ => rfl
  | v :: l, off, j, c => by
    rw [List.zipIdx_cons, List.foldl_cons, fold_wr l off (j + 1), wr]; rfl
theorem fold_arr (v c : Array Value) (off : Nat) : (v.zipIdx.foldl (fun cs (c, j) => cs.setIfInBounds (off + j) c) c) = wr c off v.toList := by
  have := fold_wr v.toList off 0 c
  rw [Nat.add_zero] at this
  rw [← this, ← Array.foldl_toList, Array.toList_zipIdx]
/-- The parts, as the evaluator and the model have them. -/
def PartsOk (place : Nat → Option (Nat × Nat)) : List (Nat × Operand) → List (Nat × Nat × XO) → Prop
  | [], l => l = []
  | p :: r, l => ∃ off size t, l = (off, size, xo p.2) :: t ∧ place p.1 = some (off, size) ∧ PartsOk place r t
theorem fill_run {ρ : Ren} {α : T AV} {a : Act} {place : Nat → Option (Nat × Nat)} : ∀ (ps : List (Nat × Operand)) (l : List (Nat × Nat × XO)), PartsOk place ps l → (∀ p ∈ ps, ∀ v, eX (xo p.2) α = some v → V ρ v (a.eval p.2)) →
    ∀ (z : AV) (cs : Array Value), Vs ρ z cs.toList → ∀ r, oFill α z l = some r → ∃ out, Instr.fill place cs (ps.map fun p => (p.1, a.eval p.2)) = some out ∧ Vs ρ r out.toList
  | [], l, hp, _, z, cs, hz, r, e => by
    cases (show l = [] from hp)
    cases e; exact ⟨cs, rfl, hz⟩
  | p :: ps, l, hp, hX, z, cs, hz, r, e => by
    obtain ⟨off, size, t, rfl, h1, h2⟩ := hp
    have e : (Option.casesOn (eX (xo p.2) α) none fun v => bif Nat.beq (sizeA v.toCells) size && Nat.ble (off + size) (sizeA z) then oFill α (splA off size z v.toCells) t else none : Option AV) = some r := e
    cases e1 : eX (xo p.2) α with
    | none => rw [e1] at e; cases e
    | some v =>
      rw [e1] at e
      replace ⟨k1, e⟩ := cutO e
      obtain ⟨k1, k2⟩ := and_ok k1
      have k1 := Nat.eq_of_beq_eq_true k1
      have k2 := Nat.le_of_ble_eq_true k2
      have hv := V_cells _ _ (hX p (by simp) v e1)
      rw [Vs_size _ _ hv, Array.length_toList] at k1
      rw [Vs_size _ _ hz, Array.length_toList] at k2
      have hspl : Vs ρ (splA off size z v.toCells) (wr cs off (a.eval p.2).cells.toList).toList := by
        rw [wr_toList _ _ _ (by rw [Array.length_toList, k1]; exact k2), Array.length_toList, k1, List.append_assoc]
        exact Vs_app (Vs_app (Vs_drop _ _ _ hz) _ _ hv) _ _ (Vs_take _ _ _ hz)
      obtain ⟨out, h3, h4⟩ := fill_run ps t h2 (fun q hq => hX q (by simp [hq])) _ _ hspl r e
      refine ⟨out, ?_, h4⟩
      simp only [List.map_cons, Instr.fill, h1]
      rw [if_neg (by simp [k1]; omega), fold_arr]
      exact h3
theorem infos_all : ∀ {fs : List Field}, infos P fs = true → ∀ f ∈ fs, ∃ i, P.info? f.type = some i
  | [], _, _, h => by cases h
  | f :: fs, h, g, hg => by
    have h : (match P.info? f.type with | some _ => infos P fs | none => false) = true := h
    cases e : P.info? f.type with
    | none => rw [e] at h; cases h
    | some i =>
      rw [e] at h
      rcases List.mem_cons.1 hg with rfl | hg
      · exact ⟨i, e⟩
      · exact infos_all h g hg
theorem places_run {fs : Array Field} (h : infos P fs.toList = true) (w : World) : (fs.mapM fun f => do pure (f.offset, ← sizeOf f.type) : Sem (Array (Nat × Nat))).run P w = .ok (fs.map fun f => (f.offset, szT P f.type)) w := by
  rw [Array.mapM_eq_mapM_toList]
  have aux : ∀ l : List Field, (∀ f ∈ l, ∃ i, P.info? f.type = some i) → (l.mapM fun f => do pure (f.offset, ← sizeOf f.type) : Sem (List (Nat × Nat))).run P w = .ok (l.map fun f => (f.offset, szT P f.type)) w := fun l => by
    induction l with
    | nil => intro _; simp
    | cons f l ih =>
      intro h
      obtain ⟨i, hi⟩ := h f (by simp)
      have ih := ih (fun g hg => h g (by simp [hg]))
      simp only [List.mapM_cons, Sem.run_bind, sizeOf_run hi, Result.andThen_ok, Sem.run_pure, ih, List.map_cons]
  simp only [Sem.run_map, aux _ (infos_all h), Result.andThen_ok]
  congr 1
  apply Array.toList_inj.1; simp
theorem cParts_ok {t : TypeId} {fs : Array Field} (ht : P.underlying t = some (.struct fs)) : ∀ (ps : List (Nat × Operand)) (l : List (Nat × Nat × XO)), cParts P t ps = some l → PartsOk ((fs.map fun f => (f.offset, szT P f.type))[·]?) ps l
  | [], l, e => by cases e; rfl
  | p :: ps, l, e => by
    have e : (match fldT P t p.1, cParts P t ps with | some (off, ty), some r => some ((off, szT P ty, xo p.2) :: r) | _, _ => none) = some l := e
    cases e1 : fldT P t p.1 with
    | none => rw [e1] at e; cases e
    | some q =>
      cases e2 : cParts P t ps with
      | none => rw [e1, e2] at e; cases e
      | some r =>
        rw [e1, e2] at e
        cases e
        refine ⟨_, _, _, rfl, ?_, cParts_ok ht ps r e2⟩
        unfold fldT at e1
        rw [ht] at e1
        simp only at e1
        split at e1 <;> cases e1
        rename_i f hf
        simp [hf]
theorem mem_parts {ps : Array (Nat × Operand)} {p : Nat × Operand} (h : p ∈ ps.toList) : p.2 ∈ (ps.toList.map (·.2)).toArray.toList := by
  simp; exact ⟨p.1, by simpa using h⟩
theorem zero_run {t : TypeId} {zl : AV} (h : zeroT P t = some zl) (ρ : Ren) (w : World) : ∃ v, (zeroValue t).run P w = .ok v w ∧ Vs ρ zl v.cells.toList := by
  unfold zeroT at h
  split at h
  · rename_i v hv; exact ⟨v, info_some hv w, ofVs_V ρ h⟩
  · cases h
theorem ok_build {t : TypeId} {ps : Array (Nat × Operand)} {fs : Array Field} {zl : AV} {l : List (Nat × Nat × XO)} (ho : o.op = .build t ps) (ht : P.underlying t = some (.struct fs)) (hf : infos P fs.toList = true) (hz : zeroT P t = some zl) (hl : cParts P t ps.toList = some l) : OpOk P o (oBuild zl l) := fun ρ α h nx a w av h' nx' H hX e => by
  unfold oBuild at e
  cases e1 : oFill α zl l with
  | none => rw [e1] at e; cases e
  | some c =>
    rw [e1] at e
    obtain ⟨rfl, rfl, rfl⟩ := ok3 e
    obtain ⟨v, hv, hzV⟩ := zero_run hz ρ w
    obtain ⟨out, h1, h2⟩ := fill_run (a := a) ps.toList l (cParts_ok ht _ _ hl) (fun p hp => hX p.2 (by rw [ho]; exact mem_parts hp)) zl v.cells hzV c e1
    refine same H (v := .agg out) ?_ ⟨out.toList, h2, by simp⟩
    have h3 : (ps.map fun (i, x) => (i, a.eval x)).toList = ps.toList.map fun p => (p.1, a.eval p.2) := by simp
    simp only [execOp, ho, Instr.build, Sem.run_bind, hv, Result.andThen_ok, underlying_some ht, places_run hf, h3, h1, Sem.run_pure]
theorem ok_buildA {t el : TypeId} {n : Nat} {ps : Array (Nat × Operand)} {zl : AV} (ho : o.op = .build t ps) (ht : P.underlying t = some (.array n el)) (hi : ∃ i, P.info? el = some i) (hz : zeroT P t = some zl) : OpOk P o (oBuild zl (ps.toList.map fun p => (p.1 * szT P el, szT P el, xo p.2))) := fun ρ α h nx a w av h' nx' H hX e => by
  unfold oBuild at e
  cases e1 : oFill α zl (ps.toList.map fun p => (p.1 * szT P el, szT P el, xo p.2)) with
  | none => rw [e1] at e; cases e
  | some c =>
    rw [e1] at e
    obtain ⟨rfl, rfl, rfl⟩ := ok3 e
    obtain ⟨v, hv, hzV⟩ := zero_run hz ρ w
    obtain ⟨i, hi⟩ := hi
    have hp : ∀ l : List (Nat × Operand), PartsOk (fun i => some (i * szT P el, szT P el)) l (l.map fun p => (p.1 * szT P el, szT P el, xo p.2)) := fun l => by
      induction l with
      | nil => rfl
      | cons p l ih => exact ⟨_, _, _, rfl, rfl, ih⟩
    obtain ⟨out, h1, h2⟩ := fill_run (a := a) ps.toList _ (hp _) (fun p hp => hX p.2 (by rw [ho]; exact mem_parts hp)) zl v.cells hzV c e1
    refine same H (v := .agg out) ?_ ⟨out.toList, h2, by simp⟩
    have h3 : (ps.map fun (i, x) => (i, a.eval x)).toList = ps.toList.map fun p => (p.1, a.eval p.2) := by simp
    simp only [execOp, ho, Instr.build, Sem.run_bind, hv, Result.andThen_ok, underlying_some ht, sizeOf_run hi, h3, h1, Sem.run_pure]
theorem zeros_arr (z : Array Value) (n : Nat) (hz : 0 < z.size) : ((Array.range (n * z.size)).map (z[· % z.size]!)).toList = (List.replicate n z.toList).flatten := by
  rw [← zeroCells_list z hz n]; rfl
theorem ok_bsl {t el : TypeId} {n : Nat} {ps : Array (Nat × Operand)} {zl : AV} (ho : o.op = .buildSlice t n ps) (ht : P.underlying t = some (.slice el)) (hel : okEl P el = true) (hz : zeroT P el = some zl) (hn : n * szT P el ≤ 100000) : OpOk P o (oBsl n zl (ps.toList.map fun p => (p.1 * szT P el, szT P el, xo p.2))) := fun ρ α h nx a w av h' nx' H hX e => by
  unfold oBsl at e
  cases e1 : oFill α (repA n zl) (ps.toList.map fun p => (p.1 * szT P el, szT P el, xo p.2)) with
  | none => rw [e1] at e; cases e
  | some c =>
    rw [e1] at e
    obtain ⟨rfl, rfl, rfl⟩ := ok3 e
    obtain ⟨i, z, hi, hiz, hzs, hs0, hb0, hb, hsz⟩ := okEl_info hel
    have hzV := zeroT_info hi hiz hz ρ
    have hp : ∀ l : List (Nat × Operand), PartsOk (fun i => some (i * szT P el, szT P el)) l (l.map fun p => (p.1 * szT P el, szT P el, xo p.2)) := fun l => by
      induction l with
      | nil => rfl
      | cons p l ih => exact ⟨_, _, _, rfl, rfl, ih⟩
    have h3 : (ps.map fun (i, x) => (i, a.eval x)).toList = ps.toList.map fun p => (p.1, a.eval p.2) := by simp
    have hzl : ((Array.range (n * z.cells.size)).map (z.cells[· % z.cells.size]!)).toList = (List.replicate n z.cells.toList).flatten := zeros_arr z.cells n (by omega)
    obtain ⟨out, h1, h2⟩ := fill_run (a := a) ps.toList _ (hp _) (fun p hp => hX p.2 (by rw [ho]; exact mem_parts hp)) (repA n zl) ((Array.range (n * z.cells.size)).map (z.cells[· % z.cells.size]!)) (by rw [hzl]; exact repA_Vs hzV n) c e1
    obtain ⟨q1, q2⟩ := H.row0 h2 el
    refine ⟨_, .slice (some ⟨w.heap.size, 0, none⟩) n n, _, .inl ?_, ⟨_, _, upd_same _ _ _, rfl⟩, q1, q2⟩
    have hbig : ¬ (n * szT P el > 2 ^ 24) := by omega
    have hzrun : (zeroValue el).run P w = .ok z w := info_some (by rw [hi]; exact hiz) w
    by_cases h0 : n * szT P el = 0
    · have hn0 : n = 0 := by rcases Nat.mul_eq_zero.1 h0 with h | h <;> omega
      subst hn0
      have r0 : Array.range 0 = #[] := rfl
      simp only [Nat.zero_mul, r0, Array.map_empty] at h1
      simp only [execOp, ho, Instr.buildSlice, Sem.run_bind, underlying_some ht, Result.andThen_ok, sizeOf_run hi, Nat.zero_mul, gt_iff_lt, Nat.not_lt_zero, if_false, if_true, Sem.run_pure, r0, Array.map_empty, h3, h1, newRow, run_newObj, World.alloc_eq]
    · rw [hzs, ← hsz] at h1
      simp only [execOp, ho, Instr.buildSlice, Sem.run_bind, underlying_some ht, Result.andThen_ok, sizeOf_run hi, hbig, if_false, h0, hzrun, Sem.run_pure]
      have h1' : Instr.fill (fun i => some (i * szT P el, szT P el)) ((Array.range (n * szT P el)).map (z.cells[· % z.cells.size]!)) (ps.map fun (i, x) => (i, a.eval x)).toList = some out := by rw [h3, hzs, ← hsz]; exact h1
      simp only [h1', newRow, Sem.run_bind, run_newObj, Result.andThen_ok, Sem.run_pure, World.alloc_eq]
theorem ok_mks {t el : TypeId} {x y : Operand} {zl : AV} (ho : o.op = .makeSlice t x y) (ht : P.underlying t = some (.slice el)) (hel : okEl P el = true) (hz : zeroT P el = some zl) : OpOk P o (on2 (xo x) (xo y) (oMks (szT P el) zl)) := by
  refine .on2 (by simp [ho, Op.operands]) (by simp [ho, Op.operands]) fun ρ h nx a w xv yv av h' nx' H hx hy e => ?_
  unfold oMks at e
  split at e
  · rename_i l c
    replace ⟨k1, e⟩ := cut1 e (noBad _)
    obtain ⟨k1, k2⟩ := and_ok k1
    have k1 := Nat.le_of_ble_eq_true k1
    have k2 := Nat.le_of_ble_eq_true k2
    simp only [force_eq] at e
    obtain ⟨rfl, rfl, rfl⟩ := ok3 e
    obtain ⟨i, z, hi, hiz, hzs, hs0, hb0, hb, hsz⟩ := okEl_info hel
    have hzV := zeroT_info hi hiz hz ρ
    have hx : a.eval x = .int .i64 (l : Int) := hx
    have hy : a.eval y = .int .i64 (c : Int) := hy
    have hzl : ((Array.range (c * z.cells.size)).map (z.cells[· % z.cells.size]!)).toList = (List.replicate c z.cells.toList).flatten := zeros_arr z.cells c (by omega)
    obtain ⟨q1, q2⟩ := H.row0 (c := (Array.range (c * z.cells.size)).map (z.cells[· % z.cells.size]!)) (by rw [hzl]; exact repA_Vs hzV c) el
    refine ⟨_, .slice (some ⟨w.heap.size, 0, none⟩) l c, _, .inl ?_, ⟨_, _, upd_same _ _ _, rfl⟩, q1, q2⟩
    have w1 : IntKind.i64.wrap (l : Int) = (l : Int) := wrap64 (by omega)
    have w2 : IntKind.i64.wrap (c : Int) = (c : Int) := wrap64 (by omega)
    have hzrun : (zeroValue el).run P w = .ok z w := info_some (by rw [hi]; exact hiz) w
    have hbc : (i.bytes : Int) * (c : Int) ≤ 100000 * 100000 := Int.mul_le_mul (by omega) (by omega) (by omega) (by omega)
    have g1 : (decide ((c : Int) < 0) || decide ((i.bytes : Int) * (c : Int) > 2 ^ 48)) = false := by simp; omega
    have g2 : decide ((l : Int) < 0) = false := by simp
    have g3 : decide ((l : Int) > (c : Int)) = false := by simp; omega
    simp only [execOp, ho, hx, hy, Instr.makeSlice, Sem.run_bind, underlying_some ht, Result.andThen_ok, asInt, asIntOf, Sem.run_pure, typeInfo, run_program, hi, w1, w2, g1, g2, g3, Bool.or_self, Bool.false_eq_true, if_false, run_askRoom, Int.toNat_natCast, sizeOf]
    by_cases h0 : c * i.size = 0
    · have hc0 : c = 0 := by rcases Nat.mul_eq_zero.1 h0 with h | h <;> omega
      subst hc0
      have r0 : Array.range 0 = #[] := rfl
      simp [newRow, r0]
    · simp only [h0, if_false, Sem.run_bind, zeroValue, typeInfo, run_program, hi, hiz, Result.andThen_ok, Sem.run_pure, newRow, run_newObj, World.alloc_eq, hzs]
  · cases e
theorem ok_mkc {t el : TypeId} {d : ChanDir} {x : Operand} {i : TypeInfo} (ho : o.op = .makeChan t x) (ht : P.underlying t = some (.chan d el)) (hi : P.info? el = some i) (hb : i.bytes ≤ 100000) : OpOk P o (on1 (xo x) oMkc) := by
  refine .on1 (by simp [ho, Op.operands]) fun ρ h nx a w xv av h' nx' H hx e => ?_
  unfold oMkc at e
  split at e
  · rename_i n
    replace ⟨k1, e⟩ := cut1 e (noBad _)
    have k1 := Nat.le_of_ble_eq_true k1
    obtain ⟨rfl, rfl, rfl⟩ := ok3 e
    have hx : a.eval x = .int .i64 (n : Int) := hx
    obtain ⟨q1, q2⟩ := H.alloc (w' := w.alloc (.chan n #[] false 0 0 false)) (t := 0) (b := .ch n .nl 0 0) (.chan n #[] false 0 0 false) rfl rfl rfl rfl ⟨[], by show (w.heap.push _)[w.heap.size]? = _; simp, rfl⟩
    refine ⟨_, .chan (some w.heap.size), _, .inl ?_, ⟨_, _, upd_same _ _ _, rfl⟩, q1, q2⟩
    have hbc : (i.bytes : Int) * (n : Int) ≤ 100000 * 1000000 := Int.mul_le_mul (by omega) (by omega) (by omega) (by omega)
    have g : ¬ ((n : Int) < 0 ∨ (n : Int) > IntKind.i64.max ∨ (i.bytes : Int) * (n : Int) > 2 ^ 48 - 112) := by
      have : IntKind.i64.max = (2 ^ 63 - 1 : Int) := rfl
      omega
    simp only [execOp, ho, hx, Instr.makeChan, asInt, asIntOf, Sem.run_bind, Sem.run_pure, Result.andThen_ok, underlying_some ht, typeInfo, run_program, hi, g, if_false, run_newObj, World.alloc_eq, Int.toNat_natCast]
  · cases e
end
end Go.Ev
end

section
open Go
namespace Go.Ev
section
variable {P : Program} {o : Oper}
theorem sameBits_flat {ρ : Ren} {k : AV} {u v : Value} {kk : Nat} (h : isKey kk k = true) (hu : V ρ k u) (hv : u = v) : Instr.sameBits 10000 u v = true := by
  subst hv
  cases k <;> first
    | (cases h; done)
    | (cases (show u = _ from hu); simp [Instr.sameBits]; done)
    | (cases (show u = _ from hu); simp only [Instr.sameBits]; rw [beq_toListBytes]; simp)
theorem checkKey_run {t : TypeId} (hk : kkT P t ≠ 0) (b : Bool) (v : Value) (w : World) : (Instr.checkKey b 10000 t v).run P w = .ok () w := by
  have hS : Instr.checkKey b 10000 t v = Instr.checkKey b (9999 + 1) t v := rfl
  rw [hS, Instr.checkKey]
  unfold kkT at hk
  split at hk
  · rename_i k hd; simp [underlying_some hd]
  · rename_i hd; simp [underlying_some hd]
  · rename_i hd; simp [underlying_some hd]
  · exact absurd rfl hk
/-- Keys that are held against each other. -/
theorem sameNow_run {ρ : Ren} {t : TypeId} {d : TypeDesc} (ht : P.underlying t = some d) {k k' : AV} {u v : Value} {r : Bool} (hkk : isKey (kkT P t) k = true) (hu : V ρ k u) (hv : V ρ k' v) (e : keyEq k k' = some r) : Instr.sameNow d u v = some r := by
  unfold keyEq eqF at e
  split at e
  · rename_i x y
    cases e
    cases (show u = _ from hu); cases (show v = _ from hv)
    have := kkT_bool (Nat.eq_of_beq_eq_true (show Nat.beq (kkT P t) 3 = true from hkk))
    rw [ht] at this; cases this
    show some (x == y) = _; cases x <;> cases y <;> rfl
  · rename_i j m j' n
    replace ⟨k1, e⟩ := cutO e
    cases e
    cases eqK_iff k1
    cases (show u = _ from hu); cases (show v = _ from hv)
    obtain ⟨q, this⟩ := kkT_int (Nat.eq_of_beq_eq_true (show Nat.beq (kkT P t) 1 = true from hkk))
    rw [ht] at this; cases this
    show (if j = j then some (m == n) else none) = _; rw [if_pos rfl, eqI_eq]
  · rename_i a b
    cases e
    cases (show u = _ from hu); cases (show v = _ from hv)
    have := kkT_str (Nat.eq_of_beq_eq_true (show Nat.beq (kkT P t) 2 = true from hkk))
    rw [ht] at this; cases this
    show some (bsOf a == bsOf b) = _; rw [beq_toListBytes, bsOf_list, bsOf_list, eqS_eq]
  · cases e
theorem keyEq_same {ρ : Ren} {k k' : AV} {u v : Value} (hu : V ρ k u) (hv : V ρ k' v) (e : keyEq k k' = some true) : u = v := by
  unfold keyEq eqF at e
  split at e
  · rename_i x y
    cases (show u = _ from hu); cases (show v = _ from hv)
    cases x <;> cases y <;> first | rfl | cases e
  · rename_i j m j' n
    replace ⟨k1, e⟩ := cutO e
    cases eqK_iff k1
    cases (show u = _ from hu); cases (show v = _ from hv)
    rw [eqI_eq] at e
    have : m = n := by simpa using e
    rw [this]
  · rename_i a b
    cases (show u = _ from hu); cases (show v = _ from hv)
    rw [eqS_eq] at e
    have : a.map UInt8.ofNat = b.map UInt8.ofNat := by simpa using e
    simp [bsOf, this]
  · cases e
/-- Where a key stands. -/
theorem findM_run {ρ : Ren} {t : TypeId} {d : TypeDesc} (ht : P.underlying t = some d) {k : AV} {u : Value} (hkk : isKey (kkT P t) k = true) (hu : V ρ k u) : ∀ (es : List ME) (l : List MapEntry) (i : Nat) (r : Option (Nat × AV)), ERs ρ es l → findM k es = some r →
    ∃ r', Instr.findNow d u l i = some r' ∧ (match r with | none => r' = none | some (n, v) => ∃ x, r' = some (i + n, x) ∧ V ρ v x ∧ ∃ m, l[n]? = some m ∧ m.val = x ∧ m.key = u)
  | [], l, i, r, h, e => by
    cases (show l = [] from h)
    have e : some none = some r := e
    cases e
    exact ⟨none, rfl, rfl⟩
  | en :: es, l, i, r, ⟨m, tl, hl, ⟨h1, h2, h3⟩, h4⟩, e => by
    subst hl
    have e : (Option.casesOn (keyEq k en.k) none fun r => bif r then some (some (0, en.v)) else Option.casesOn (findM k es) none fun r => Option.casesOn r (some none) fun p => some (some (Nat.succ p.1, p.2)) : Option (Option (Nat × AV))) = some r := e
    cases e1 : keyEq k en.k with
    | none => rw [e1] at e; cases e
    | some b =>
      rw [e1] at e
      have hs := sameNow_run ht hkk hu h1 e1
      cases b with
      | true =>
        have e : some (some (0, en.v)) = some r := e
        cases e
        exact ⟨some (i, m.val), by simp [Instr.findNow, hs], m.val, rfl, h2, m, rfl, rfl, (keyEq_same hu h1 e1).symm⟩
      | false =>
        have e : (Option.casesOn (findM k es) none fun r => Option.casesOn r (some none) fun p => some (some (Nat.succ p.1, p.2)) : Option (Option (Nat × AV))) = some r := e
        cases e2 : findM k es with
        | none => rw [e2] at e; cases e
        | some q =>
          obtain ⟨r', k1, k2⟩ := findM_run ht hkk hu es tl (i + 1) q h4 e2
          rw [e2] at e
          have hf : Instr.findNow d u (m :: tl) i = some r' := by simp [Instr.findNow, hs, k1]
          cases q with
          | none =>
            have e : some none = some r := e
            cases e
            exact ⟨r', hf, k2⟩
          | some p =>
            have e : some (some (Nat.succ p.1, p.2)) = some r := e
            cases e
            obtain ⟨x, k3, k4, m', k5, k6⟩ := k2
            exact ⟨r', hf, x, by rw [k3, show i + 1 + p.1 = i + Nat.succ p.1 by omega], k4, m', by simpa using k5, k6⟩
theorem findKey_run {ρ : Ren} {t : TypeId} {d : TypeDesc} (ht : P.underlying t = some d) {k : AV} {u : Value} (hkk : isKey (kkT P t) k = true) (hu : V ρ k u) {es : List ME} {l : List MapEntry} {r : Option (Nat × AV)} (he : ERs ρ es l) (e : findM k es = some r) (w : World) :
    ∃ r', (Instr.findKey t u l).run P w = .ok r' w ∧ (match r with | none => r' = none | some (n, v) => ∃ x, r' = some (n, x) ∧ V ρ v x ∧ ∃ m, l[n]? = some m ∧ m.val = x ∧ m.key = u) := by
  obtain ⟨r', h1, h2⟩ := findM_run ht hkk hu es l 0 r he e
  refine ⟨r', by simp [Instr.findKey, underlying_some ht, h1], ?_⟩
  cases r with
  | none => exact h2
  | some p => simpa using h2
theorem kk_ne {kk : Nat} {k : AV} (h : isKey kk k = true) : kk ≠ 0 := by
  intro h0; subst h0; cases k <;> cases h
theorem zeroV_run {t : TypeId} {zl : AV} (h : zeroV P t = some zl) (ρ : Ren) (w : World) : ∃ v, (zeroValue t).run P w = .ok v w ∧ V ρ zl v := by
  unfold zeroV at h
  split at h
  · rename_i v hv; exact ⟨v, info_some hv w, ofV_V ρ h⟩
  · cases h
theorem und_of_kk {t : TypeId} (h : kkT P t ≠ 0) : ∃ d, P.underlying t = some d := let ⟨d, h, _⟩ := und_kk h; ⟨d, h⟩
theorem tp2 {ρ : Ren} {x y : AV} {u v : Value} (h : V ρ x u) (k : V ρ y v) : V ρ (.tp (.cn x (.cn y .nl))) (.tuple #[u, v]) := ⟨[u, v], ⟨u, [v], rfl, h, v, [], rfl, k, rfl⟩, rfl⟩
theorem ok_lkp {t kt et : TypeId} {x y : Operand} {ok : Bool} {zl : AV} (ho : o.op = .lookup t x y ok) (ht : P.underlying t = some (.map kt et)) (hz : zeroV P et = some zl) : OpOk P o (on2 (xo x) (xo y) (oLkp (kkT P kt) zl ok)) := by
  refine .on2 (by simp [ho, Op.operands]) (by simp [ho, Op.operands]) (Of2.same fun ρ h nx a w xv yv av h' nx' H hx hy e => ?_)
  unfold oLkp at e
  replace ⟨hk, e⟩ := cut1 e (noBad _)
  obtain ⟨d, hd⟩ := und_of_kk (kk_ne hk)
  obtain ⟨z, hz1, hz2⟩ := zeroV_run hz ρ w
  have out : ∀ (v : Value) (b : Bool) (vv : AV), V ρ vv v → V ρ (bif ok then .tp (.cn vv (.cn (.b b) .nl)) else vv) (if ok then .tuple #[v, .bool b] else v) := fun v b vv h => by
    cases ok with
    | true => exact tp2 h rfl
    | false => exact h
  split at e
  · obtain ⟨rfl, rfl, rfl⟩ := ok3 e
    have hx : a.eval x = .map none := hx
    refine ⟨rfl, rfl, _, ?_, out z false zl hz2⟩
    obtain ⟨r', f1, f2⟩ := findKey_run hd hk hy (es := []) (l := []) rfl rfl w
    have f2 : r' = none := f2
    subst f2
    have hck := checkKey_run (kk_ne hk) true (a.eval y) w
    simp [execOp, ho, hx, Instr.lookup, underlying_some ht, hck, f1, hz1]
  · rename_i id
    obtain ⟨g, t', hg, hx⟩ := hx
    cases e1 : getP id h with
    | none => rw [e1] at e; cases e
    | some b =>
      rw [e1] at e
      cases b with
      | ce _ _ _ _ => cases e
      | ch _ _ _ _ => cases e
      | it _ _ _ _ => cases e
      | mp es cl =>
        obtain ⟨ents, k1, k2⟩ := getP_mp H e1 hg
        simp only at e
        cases e2 : findM yv es with
        | none => rw [e2] at e; cases e
        | some r =>
          rw [e2] at e
          obtain ⟨r', f1, f2⟩ := findKey_run hd hk hy k2 e2 w
          have hck := checkKey_run (kk_ne hk) ents.isEmpty (a.eval y) w
          have hob : (getObj g).run P w = .ok (.map ents cl) w := by simp [getObj, Sem.run, k1]
          cases r with
          | none =>
            have f2 : r' = none := f2
            subst f2
            obtain ⟨rfl, rfl, rfl⟩ := ok3 e
            refine ⟨rfl, rfl, _, ?_, out z false zl hz2⟩
            simp [execOp, ho, hx, Instr.lookup, underlying_some ht, hob, hck, f1, hz1]
          | some p =>
            obtain ⟨x', rfl, f3, _⟩ := f2
            obtain ⟨rfl, rfl, rfl⟩ := ok3 e
            refine ⟨rfl, rfl, _, ?_, out x' true p.2 f3⟩
            simp [execOp, ho, hx, Instr.lookup, underlying_some ht, hob, hck, f1]
  · cases e
/-! ### writing maps -/
theorem ERs_add {ρ : Ren} {e : ME} {m : MapEntry} (h : ER ρ e m) : ∀ {es : List ME} {l : List MapEntry}, ERs ρ es l → ERs ρ (es ++ [e]) (l ++ [m])
  | [], l, h' => by cases (show l = [] from h'); exact ⟨m, [], rfl, h, rfl⟩
  | _ :: _, _, ⟨m', t, e', h1, h2⟩ => by subst e'; exact ⟨m', t ++ [m], rfl, h1, ERs_add h h2⟩
theorem addM_eq (k v : AV) (c : Nat) : ∀ l, addM k v c l = l ++ [⟨k, v, c⟩]
  | [] => rfl
  | e :: l => by show e :: addM k v c l = _; rw [addM_eq k v c l]; rfl
theorem ERs_set {ρ : Ren} {k v : AV} {f : MapEntry → MapEntry} (hf : ∀ m, V ρ k (f m).key ∧ V ρ v (f m).val ∧ (f m).born = m.born) : ∀ (n : Nat) (es : List ME) (l : List MapEntry), ERs ρ es l → ERs ρ (setM k v n es) (l.modify n f)
  | 0, [], l, h => by cases (show l = [] from h); exact rfl
  | _ + 1, [], l, h => by cases (show l = [] from h); exact rfl
  | 0, e :: es, _, ⟨m, t, e', ⟨_, _, h3⟩, h2⟩ => by subst e'; exact ⟨f m, t, by simp, ⟨(hf m).1, (hf m).2.1, by rw [(hf m).2.2]; exact h3⟩, h2⟩
  | n + 1, e :: es, _, ⟨m, t, e', h1, h2⟩ => by subst e'; exact ⟨m, t.modify n f, by simp, h1, ERs_set hf n es t h2⟩
theorem ERs_del {ρ : Ren} : ∀ (n : Nat) (es : List ME) (l : List MapEntry), ERs ρ es l → ERs ρ (delM n es) (l.eraseIdx n)
  | 0, [], l, h => by cases (show l = [] from h); exact rfl
  | _ + 1, [], l, h => by cases (show l = [] from h); exact rfl
  | 0, _ :: _, _, ⟨_, _, e', _, h2⟩ => by subst e'; exact h2
  | n + 1, _ :: es, _, ⟨m, t, e', h1, h2⟩ => by subst e'; exact ⟨m, t.eraseIdx n, rfl, h1, ERs_del n es t h2⟩
theorem HR.map {ρ : Ren} {h : Hp} {nx : Pa} {w : World} (H : HR ρ h nx w) {id : Pa} {es es' : List ME} {c c' g t : Nat} (hid : getP id h = some (.mp es c)) (hg : ρ id = some (g, t)) {ents' : Array MapEntry} (he : ERs ρ es' ents'.toList) :
    (setObj g (.map ents' c')).run P w = .ok () { w with heap := w.heap.setIfInBounds g (.map ents' c') } ∧ HR ρ (setP (some (.mp es' c')) id h) nx { w with heap := w.heap.setIfInBounds g (.map ents' c') } ∧ Stp ρ h w ρ (setP (some (.mp es' c')) id h) { w with heap := w.heap.setIfInBounds g (.map ents' c') } := by
  obtain ⟨ents, k1, k2⟩ := getP_mp H hid hg
  have hlt : g < w.heap.size := (Array.getElem?_eq_some_iff.1 k1).1
  refine ⟨by simp [setObj, Sem.run, k1], H.write hid rfl hg (fun k hk => ?_) (by simp) rfl rfl rfl ⟨ents', ?_, he⟩⟩
  · exact Array.getElem?_setIfInBounds_ne (Ne.symm hk)
  · show (w.heap.setIfInBounds g _)[g]? = _
    simp [hlt]
theorem ok_mup {t kt et : TypeId} {x y z : Operand} (ho : o.op = .mapUpdate t x y z ∨ o.op = .insert t x y z) (ht : P.underlying t = some (.map kt et)) : OpOk P o (on3 (xo x) (xo y) (xo z) (oMup (kkT P kt))) := by
  refine .on3 (by rcases ho with h | h <;> simp [h, Op.operands]) (by rcases ho with h | h <;> simp [h, Op.operands]) (by rcases ho with h | h <;> simp [h, Op.operands]) fun ρ h nx a w xv yv zv av h' nx' H hx hy hz e => ?_
  have hop : execOp a.eval o = (do Instr.mapUpdate t (a.eval x) (a.eval y) (a.eval z); pure .skip) := by rcases ho with h | h <;> simp only [execOp, h]
  unfold oMup at e
  replace ⟨hk, e⟩ := cut1 e (noBad _)
  obtain ⟨d, hd⟩ := und_of_kk (kk_ne hk)
  split at e
  · rename_i id
    obtain ⟨g, t', hg, hx⟩ := hx
    cases e1 : getP id h with
    | none => rw [e1] at e; cases e
    | some b =>
      rw [e1] at e
      cases b with
      | ce _ _ _ _ => cases e
      | ch _ _ _ _ => cases e
      | it _ _ _ _ => cases e
      | mp es cl =>
        obtain ⟨ents, k1, k2⟩ := getP_mp H e1 hg
        simp only at e
        cases e2 : findM yv es with
        | none => rw [e2] at e; cases e
        | some r =>
          rw [e2] at e
          obtain ⟨r', f1, f2⟩ := findKey_run hd hk hy k2 e2 w
          have hck := checkKey_run (kk_ne hk) false (a.eval y) w
          have hob : (getObj g).run P w = .ok (.map ents cl) w := by simp [getObj, Sem.run, k1]
          cases r with
          | none =>
            have f2 : r' = none := f2
            subst f2
            obtain ⟨rfl, rfl, rfl⟩ := ok3 e
            obtain ⟨q1, q2, q3⟩ := H.map (P := P) (es' := addM yv zv cl es) (c' := cl + 1) (ents' := ents.push { key := a.eval y, val := a.eval z, born := cl }) e1 hg (by rw [addM_eq, Array.toList_push]; exact ERs_add ⟨hy, hz, rfl⟩ k2)
            refine ⟨ρ, undef, _, .inr ⟨?_, rfl⟩, ⟨[], rfl, rfl⟩, q2, q3⟩
            simp [hop, hx, Instr.mapUpdate, underlying_some ht, hob, hck, f1, q1]
          | some p =>
            obtain ⟨x', rfl, f3, m, f4, f5, f6⟩ := f2
            obtain ⟨rfl, rfl, rfl⟩ := ok3 e
            have hm : ents[p.1]? = some m := by rw [← Array.getElem?_toList]; exact f4
            obtain ⟨q1, q2, q3⟩ := H.map (P := P) (es' := setM yv zv p.1 es) (c' := cl) (ents' := ents.modify p.1 fun e => { e with key := a.eval y, val := a.eval z }) e1 hg (by rw [Array.toList_modify]; exact ERs_set (f := fun e => { e with key := a.eval y, val := a.eval z }) (fun m => ⟨hy, hz, rfl⟩) _ _ _ k2)
            refine ⟨ρ, undef, _, .inr ⟨?_, rfl⟩, ⟨[], rfl, rfl⟩, q2, q3⟩
            have hks : (Instr.keyThatStays (((ents[p.1]?).map (·.key)).getD (a.eval y)) (a.eval y)).run P w = .ok (a.eval y) w := by
              rw [hm]
              simp only [Option.map_some, Option.getD_some, f6, Instr.keyThatStays, sameBits_flat hk hy rfl, if_true, Sem.run_pure]
            simp only [hop, hx, Instr.mapUpdate, Sem.run_bind, underlying_some ht, Result.andThen_ok, hob, hck, f1, hks, q1, Sem.run_pure]
  · cases e
theorem ok_del {c : Call} {t kt et : TypeId} {ts : List TypeId} {x y : Operand} {r : List Operand} (ho : o.op = .call c) (hc : c.callee = .builtin .delete) (h1 : c.argTypes.toList = t :: ts) (h2 : c.args.toList = x :: y :: r) (ht : P.underlying t = some (.map kt et)) : OpOk P o (on2 (xo x) (xo y) (oDel (kkT P kt))) := by
  refine .on2 (mem_args ho hc (by rw [h2]; simp)) (mem_args ho hc (by rw [h2]; simp)) fun ρ h nx a w xv yv av h' nx' H hx hy e => ?_
  obtain ⟨cs, hr⟩ := run_blt (P := P) ho hc a w
  have a1 : c.argTypes = (t :: ts).toArray := by rw [← h1]
  have a2 : c.args.map a.eval = (a.eval x :: a.eval y :: r.map a.eval).toArray := by rw [arr2 h2]; simp
  have tpV : V ρ (.tp .nl) (.tuple #[]) := ⟨[], rfl, rfl⟩
  unfold oDel at e
  replace ⟨hk, e⟩ := cut1 e (noBad _)
  obtain ⟨d, hd⟩ := und_of_kk (kk_ne hk)
  split at e
  · obtain ⟨rfl, rfl, rfl⟩ := ok3 e
    have hx : a.eval x = .map none := hx
    have hck := checkKey_run (kk_ne hk) true (a.eval y) w
    refine same H ?_ tpV
    rw [hr, a1, a2]
    simp [builtin, Builtin.delete_, hx, underlying_some ht, hck]
  · rename_i id
    obtain ⟨g, t', hg, hx⟩ := hx
    cases e1 : getP id h with
    | none => rw [e1] at e; cases e
    | some b =>
      rw [e1] at e
      cases b with
      | ce _ _ _ _ => cases e
      | ch _ _ _ _ => cases e
      | it _ _ _ _ => cases e
      | mp es cl =>
        obtain ⟨ents, k1, k2⟩ := getP_mp H e1 hg
        simp only at e
        cases e2 : findM yv es with
        | none => rw [e2] at e; cases e
        | some q =>
          rw [e2] at e
          obtain ⟨r', f1, f2⟩ := findKey_run hd hk hy k2 e2 w
          have hck := checkKey_run (kk_ne hk) ents.isEmpty (a.eval y) w
          have hob : (getObj g).run P w = .ok (.map ents cl) w := by simp [getObj, Sem.run, k1]
          cases q with
          | none =>
            have f2 : r' = none := f2
            subst f2
            obtain ⟨rfl, rfl, rfl⟩ := ok3 e
            obtain ⟨q1, q2, q3⟩ := H.map (P := P) (es' := es) (c' := cl) (ents' := ents) e1 hg k2
            have hsame : ∀ i, getP i h' = getP i (setP (some (.mp es cl)) id h') := fun i => by
              rcases get_set' (some (Blk.mp es cl)) i id h' with ⟨j1, j2⟩ | ⟨j1, j2⟩
              · rw [j1, j2, e1]
              · rw [j1]
            refine ⟨ρ, _, _, .inl ?_, tpV, q2.congr hsame, q3.congr hsame⟩
            rw [hr, a1, a2]
            simp [builtin, Builtin.delete_, hx, underlying_some ht, hob, hck, f1, q1]
          | some p =>
            obtain ⟨x', rfl, f3, m, f4, f5, f6⟩ := f2
            obtain ⟨rfl, rfl, rfl⟩ := ok3 e
            have hm : ents[p.1]? = some m := by rw [← Array.getElem?_toList]; exact f4
            have hlt : p.1 < ents.size := (Array.getElem?_eq_some_iff.1 hm).1
            obtain ⟨q1, q2, q3⟩ := H.map (P := P) (es' := delM p.1 es) (c' := cl) (ents' := ents.eraseIdxIfInBounds p.1) e1 hg (by
              have : (ents.eraseIdxIfInBounds p.1).toList = ents.toList.eraseIdx p.1 := by simp [Array.eraseIdxIfInBounds, hlt]
              rw [this]; exact ERs_del _ _ _ k2)
            refine ⟨ρ, _, _, .inl ?_, tpV, q2, q3⟩
            rw [hr, a1, a2]
            simp [builtin, Builtin.delete_, hx, underlying_some ht, hob, hck, f1, q1]
  · cases e
end
end Go.Ev
end

section
open Go
namespace Go.Ev
section
variable {P : Program} {o : Oper}
theorem ERs_setAt {ρ : Ren} {k v : AV} {f : MapEntry → MapEntry} : ∀ (n : Nat) (es : List ME) (l : List MapEntry), (∀ m, l[n]? = some m → V ρ k (f m).key ∧ V ρ v (f m).val ∧ (f m).born = m.born) → ERs ρ es l → ERs ρ (setM k v n es) (l.modify n f)
  | 0, [], l, _, h => by cases (show l = [] from h); exact rfl
  | _ + 1, [], l, _, h => by cases (show l = [] from h); exact rfl
  | 0, e :: es, l, hf, ⟨m, t, e', ⟨_, _, h3⟩, h2⟩ => by subst e'; have hf := hf m rfl; exact ⟨f m, t, by simp, ⟨hf.1, hf.2.1, by rw [hf.2.2]; exact h3⟩, h2⟩
  | n + 1, e :: es, l, hf, ⟨m, t, e', h1, h2⟩ => by subst e'; exact ⟨m, t.modify n f, by simp, h1, ERs_setAt n es t (fun m hm => hf m (by simpa using hm)) h2⟩
theorem ERs_setV {ρ : Ren} {v : AV} {f : MapEntry → MapEntry} (hf : ∀ m, (f m).key = m.key ∧ V ρ v (f m).val ∧ (f m).born = m.born) : ∀ (n : Nat) (es : List ME) (l : List MapEntry), ERs ρ es l → ERs ρ (setV v n es) (l.modify n f)
  | 0, [], l, h => by cases (show l = [] from h); exact rfl
  | _ + 1, [], l, h => by cases (show l = [] from h); exact rfl
  | 0, e :: es, _, ⟨m, t, e', ⟨h1, _, h3⟩, h2⟩ => by subst e'; exact ⟨f m, t, by simp, ⟨by rw [(hf m).1]; exact h1, (hf m).2.1, by rw [(hf m).2.2]; exact h3⟩, h2⟩
  | n + 1, e :: es, _, ⟨m, t, e', h1, h2⟩ => by subst e'; exact ⟨m, t.modify n f, by simp, h1, ERs_setV hf n es t h2⟩
theorem bornM_eq {ρ : Ren} : ∀ (n : Nat) (es : List ME) (l : List MapEntry) (m : MapEntry), ERs ρ es l → l[n]? = some m → bornM n es = m.born
  | n, [], l, m, h, e => by cases (show l = [] from h); simp at e
  | 0, e :: es, l, m, ⟨m', t, e', ⟨_, _, h3⟩, _⟩, h => by subst e'; cases h; exact h3.symm
  | n + 1, e :: es, l, m, ⟨m', t, e', _, h2⟩, h => by subst e'; exact bornM_eq n es t m h2 (by simpa using h)
theorem ok_ment {t kt et : TypeId} {x y : Operand} {zl : AV} (ho : o.op = .mapEntry t x y) (ht : P.underlying t = some (.map kt et)) (hz : zeroV P et = some zl) : OpOk P o (on2 (xo x) (xo y) (oMent (kkT P kt) zl)) := by
  refine .on2 (by simp [ho, Op.operands]) (by simp [ho, Op.operands]) fun ρ h nx a w xv yv av h' nx' H hx hy e => ?_
  unfold oMent at e
  replace ⟨hk, e⟩ := cut1 e (noBad _)
  obtain ⟨d, hd⟩ := und_of_kk (kk_ne hk)
  obtain ⟨z, hz1, hz2⟩ := zeroV_run hz ρ w
  split at e
  · rename_i id
    obtain ⟨g, t', hg, hx⟩ := hx
    cases e1 : getP id h with
    | none => rw [e1] at e; cases e
    | some b =>
      rw [e1] at e
      cases b with
      | ce _ _ _ _ => cases e
      | ch _ _ _ _ => cases e
      | it _ _ _ _ => cases e
      | mp es cl =>
        obtain ⟨ents, k1, k2⟩ := getP_mp H e1 hg
        simp only at e
        cases e2 : findM yv es with
        | none => rw [e2] at e; cases e
        | some r =>
          rw [e2] at e
          obtain ⟨r', f1, f2⟩ := findKey_run hd hk hy k2 e2 w
          have hck := checkKey_run (kk_ne hk) false (a.eval y) w
          have hob : (getObj g).run P w = .ok (.map ents cl) w := by simp [getObj, Sem.run, k1]
          cases r with
          | none =>
            have f2 : r' = none := f2
            subst f2
            obtain ⟨rfl, rfl, rfl⟩ := ok3 e
            obtain ⟨q1, q2, q3⟩ := H.map (P := P) (es' := addM yv zl cl es) (c' := cl + 1) (ents' := ents.push { key := a.eval y, val := z, born := cl }) e1 hg (by rw [addM_eq, Array.toList_push]; exact ERs_add ⟨hy, hz2, rfl⟩ k2)
            refine ⟨ρ, .tuple #[z, goInt cl], _, .inl ?_, tp2 hz2 (by rw [g64_eq]; rfl), q2, q3⟩
            simp [execOp, ho, hx, Instr.mapEntry, underlying_some ht, hob, hck, f1, hz1, q1]
          | some p =>
            obtain ⟨x', rfl, f3, m, f4, f5, f6⟩ := f2
            obtain ⟨rfl, rfl, rfl⟩ := ok3 e
            have hm : ents[p.1]? = some m := by rw [← Array.getElem?_toList]; exact f4
            obtain ⟨q1, q2, q3⟩ := H.map (P := P) (es' := setM yv p.2 p.1 es) (c' := cl) (ents' := ents.modify p.1 fun e => { e with key := a.eval y }) e1 hg (by
              rw [Array.toList_modify]
              exact ERs_setAt (f := fun e => { e with key := a.eval y }) _ _ _ (fun m' hm' => by rw [f4] at hm'; cases hm'; exact ⟨hy, by rw [← f5] at f3; exact f3, rfl⟩) k2)
            refine ⟨ρ, .tuple #[x', goInt m.born], _, .inl ?_, tp2 f3 (by rw [g64_eq, bornM_eq p.1 es _ m k2 f4]; rfl), q2, q3⟩
            have hks : (Instr.keyThatStays (a.eval y) (a.eval y)).run P w = .ok (a.eval y) w := by
              simp only [Instr.keyThatStays, sameBits_flat hk hy rfl, if_true, Sem.run_pure]
            simp only [execOp, ho, hx, Instr.mapEntry, Sem.run_bind, underlying_some ht, Result.andThen_ok, hob, hck, f1, hm, Option.map_some, Option.getD_some, f6, hks, q1, Sem.run_pure]
  · cases e
theorem findB_run {ρ : Ren} (c : Nat) : ∀ (es : List ME) (l : List MapEntry) (k : Nat), ERs ρ es l → findB c es = some k → l.findIdx? (fun e => (e.born : Int) == (c : Int)) = some k ∧ ∃ m e, l[k]? = some m ∧ es[k]? = some e ∧ ER ρ e m ∧ l.find? (fun e => e.born == c) = some m
  | [], _, _, _, e => by cases e
  | en :: es, l, k, ⟨m, t, hl, h1, h2⟩, e => by
    subst hl
    have e : (bif Nat.beq en.bn c then some 0 else Option.casesOn (findB c es) none fun n => some (Nat.succ n)) = some k := e
    cases hb : Nat.beq en.bn c with
    | true =>
      rw [hb] at e; cases e
      have hb := Nat.eq_of_beq_eq_true hb
      have : m.born = c := by rw [h1.2.2]; exact hb
      refine ⟨by simp [List.findIdx?_cons, this], m, en, rfl, rfl, h1, by simp [this]⟩
    | false =>
      rw [hb] at e
      have hb := Nat.ne_of_beq_eq_false hb
      have hne : m.born ≠ c := by rw [h1.2.2]; exact hb
      cases e1 : findB c es with
      | none => rw [e1] at e; cases e
      | some n =>
        rw [e1] at e; cases e
        obtain ⟨k1, m', e', k2, k3, k4, k5⟩ := findB_run c es t n h2 e1
        have hne' : ((m.born : Int) == (c : Int)) = false := by simpa using fun h => hne (by exact_mod_cast h)
        refine ⟨by simp [List.findIdx?_cons, hne', k1], m', e', by simpa using k2, by simpa using k3, k4, by simp [hne, k5]⟩
theorem ok_mst {t : TypeId} {x y z : Operand} (ho : o.op = .entryStore t x y z) : OpOk P o (on3 (xo x) (xo y) (xo z) oMst) := by
  refine .on3 (by simp [ho, Op.operands]) (by simp [ho, Op.operands]) (by simp [ho, Op.operands]) fun ρ h nx a w xv yv zv av h' nx' H hx hy hz e => ?_
  unfold oMst at e
  split at e
  · rename_i id kd n
    obtain ⟨g, t', hg, hx⟩ := hx
    have hy : a.eval y = .int kd (n : Int) := hy
    cases e1 : getP id h with
    | none => rw [e1] at e; cases e
    | some b =>
      rw [e1] at e
      cases b with
      | ce _ _ _ _ => cases e
      | ch _ _ _ _ => cases e
      | it _ _ _ _ => cases e
      | mp es cl =>
        obtain ⟨ents, k1, k2⟩ := getP_mp H e1 hg
        simp only at e
        cases e2 : findB n es with
        | none => rw [e2] at e; cases e
        | some k =>
          rw [e2] at e
          obtain ⟨rfl, rfl, rfl⟩ := ok3 e
          obtain ⟨f1, _⟩ := findB_run n es _ k k2 e2
          have hob : (getObj g).run P w = .ok (.map ents cl) w := by simp [getObj, Sem.run, k1]
          obtain ⟨q1, q2, q3⟩ := H.map (P := P) (es' := setV zv k es) (c' := cl) (ents' := ents.modify k fun e => { e with val := a.eval z }) e1 hg (by rw [Array.toList_modify]; exact ERs_setV (f := fun e => { e with val := a.eval z }) (fun m => ⟨rfl, hz, rfl⟩) _ _ _ k2)
          refine ⟨ρ, undef, _, .inr ⟨?_, rfl⟩, ⟨[], rfl, rfl⟩, q2, q3⟩
          have f1' : ents.findIdx? (fun e => (e.born : Int) == (n : Int)) = some k := by
            clear q1 q2 q3 hob k1 k2; cases ents; simpa using f1
          simp only [execOp, ho, hx, hy, Instr.entryStore, Sem.run_bind, hob, Result.andThen_ok, asInt, asIntOf, Sem.run_pure, f1', q1]
  · cases e
/-! ### ranging -/
theorem ok_rng {t kt et : TypeId} {x : Operand} (ho : o.op = .range t x) (ht : P.underlying t = some (.map kt et)) : OpOk P o (on1 (xo x) oRng) := by
  refine .on1 (by simp [ho, Op.operands]) fun ρ h nx a w xv av h' nx' H hx e => ?_
  unfold oRng at e
  split at e
  · have e : newIt none 0 h nx = .ok av h' nx' := e
    obtain ⟨rfl, rfl, rfl⟩ := ok3 e
    have hx : a.eval x = .map none := hx
    obtain ⟨q1, q2⟩ := H.alloc (w' := w.alloc (.mapIter none 0 #[] 0)) (t := 0) (b := .it none 0 [] 0) (.mapIter none 0 #[] 0) rfl rfl rfl rfl ⟨none, by show (w.heap.push _)[w.heap.size]? = _; simp, rfl⟩
    refine ⟨_, .pointer (some ⟨w.heap.size, 0, none⟩), _, .inl ?_, ⟨_, _, upd_same _ _ _, rfl⟩, q1, q2⟩
    simp [execOp, ho, hx, Instr.range, underlying_some ht]
  · rename_i id
    obtain ⟨g, t', hg, hx⟩ := hx
    cases e1 : getP id h with
    | none => rw [e1] at e; cases e
    | some b =>
      rw [e1] at e
      cases b with
      | ce _ _ _ _ => cases e
      | ch _ _ _ _ => cases e
      | it _ _ _ _ => cases e
      | mp es cl =>
        obtain ⟨ents, k1, k2⟩ := getP_mp H e1 hg
        have e : newIt (some id) cl h nx = .ok av h' nx' := e
        obtain ⟨rfl, rfl, rfl⟩ := ok3 e
        have hob : (getObj g).run P w = .ok (.map ents cl) w := by simp [getObj, Sem.run, k1]
        obtain ⟨q1, q2⟩ := H.alloc (w' := w.alloc (.mapIter (some g) cl #[] cl)) (t := 0) (b := .it (some id) cl [] cl) (.mapIter (some g) cl #[] cl) rfl rfl rfl rfl ⟨some g, by show (w.heap.push _)[w.heap.size]? = _; simp, g, t', by rw [upd_ne _ _ (H.ne hg)]; exact hg, rfl⟩
        refine ⟨_, .pointer (some ⟨w.heap.size, 0, none⟩), _, .inl ?_, ⟨_, _, upd_same _ _ _, rfl⟩, q1, q2⟩
        simp [execOp, ho, hx, Instr.range, underlying_some ht, hob]
  · cases e
theorem getP_it {ρ : Ren} {h : Hp} {nx : Pa} {w : World} (H : HR ρ h nx w) {id : Pa} {m : Option Pa} {since last : Nat} {seen : List Nat} (e : getP id h = some (.it m since seen last)) {g t : Nat} (hg : ρ id = some (g, t)) :
    ∃ mm, w.heap[g]? = some (.mapIter mm since seen.reverse.toArray last) ∧ (match (generalizing := false) m with | none => mm = none | some id => ∃ b t, ρ id = some (b, t) ∧ mm = some b) := by
  obtain ⟨g', t', h1, h2⟩ := H.blk id _ e
  rw [hg] at h1; cases h1; exact h2
theorem memN_eq (n : Nat) : ∀ l : List Nat, memN n l = l.contains n
  | [] => rfl
  | x :: l => by
    show (bif Nat.beq x n then true else memN n l) = _
    rw [memN_eq n l, List.contains_cons]
    cases h : Nat.beq x n with
    | true => have := Nat.eq_of_beq_eq_true h; subst this; simp
    | false => have := Nat.ne_of_beq_eq_false h; simp [Ne.symm this]
theorem leftM_run {ρ : Ren} (seen : List Nat) : ∀ (es : List ME) (l : List MapEntry), ERs ρ es l → ERs ρ (leftM seen es) (l.filter fun e => !seen.contains e.born)
  | [], l, h => by cases (show l = [] from h); exact rfl
  | e :: es, l, ⟨m, t, hl, h1, h2⟩ => by
    subst hl
    have ih := leftM_run seen es t h2
    show ERs ρ (bif memN e.bn seen then leftM seen es else e :: leftM seen es) _
    rw [memN_eq, List.filter_cons, h1.2.2]
    cases seen.contains e.bn with
    | true => simpa using ih
    | false => exact ⟨m, _, by simp, h1, ih⟩
theorem anyLt_run {ρ : Ren} (n : Nat) : ∀ (es : List ME) (l : List MapEntry), ERs ρ es l → anyLt n es = true → l.all (fun e => decide (e.born ≥ n)) = false
  | [], _, _, e => by cases e
  | en :: es, l, ⟨m, t, hl, h1, h2⟩, e => by
    subst hl
    have e : (bif Nat.blt en.bn n then true else anyLt n es) = true := e
    cases hb : Nat.blt en.bn n with
    | true => have hb : en.bn < n := by simpa using hb
              rw [List.all_cons, h1.2.2]; simp; omega
    | false => rw [hb] at e; rw [List.all_cons, anyLt_run n es t h2 e]; simp
theorem ok_nxt {x : Operand} (ho : o.op = .next x false) : OpOk P o (on1 (xo x) oNxt) := by
  refine .on1 (by simp [ho, Op.operands]) fun ρ h nx a w xv av h' nx' H hx e => ?_
  have over : V ρ oneOver (.tuple #[.bool false]) := ⟨[.bool false], ⟨_, [], rfl, rfl, rfl⟩, rfl⟩
  unfold oNxt at e
  split at e
  · rename_i id
    obtain ⟨g, t', hg, hx⟩ := hx
    cases e1 : getP id h with
    | none => rw [e1] at e; cases e
    | some b =>
      rw [e1] at e
      cases b with
      | ce _ _ _ _ => cases e
      | ch _ _ _ _ => cases e
      | mp _ _ => cases e
      | it m since seen last =>
        obtain ⟨mm, k1, k2⟩ := getP_it H e1 hg
        have hob : (getObj g).run P w = .ok (.mapIter mm since seen.reverse.toArray last) w := by simp [getObj, Sem.run, k1]
        simp only at e
        unfold oNxt2 at e
        cases m with
        | none =>
          have k2 : mm = none := k2
          subst k2
          have e : Rv.ok oneOver h nx = .ok av h' nx' := e
          obtain ⟨rfl, rfl, rfl⟩ := ok3 e
          exact same H (by simp [execOp, ho, hx, Instr.next, hob]) over
        | some mid =>
          obtain ⟨gm, tm, hgm, rfl⟩ := k2
          cases e2 : getP mid h with
          | none => simp only [e2] at e; cases e
          | some bm =>
            simp only [e2] at e
            cases bm with
            | ce _ _ _ _ => cases e
            | ch _ _ _ _ => cases e
            | it _ _ _ _ => cases e
            | mp es cl =>
              obtain ⟨ents, j1, j2⟩ := getP_mp H e2 hgm
              have hob2 : (getObj gm).run P w = .ok (.map ents cl) w := by simp [getObj, Sem.run, j1]
              replace ⟨hlast, e⟩ := cut1 e (noBad _)
              have hguard : (!seen.reverse.toArray.isEmpty && !ents.isEmpty && ents.all (fun e => decide (e.born ≥ last))) = false := by
                cases seen with
                | nil => simp
                | cons s0 sr =>
                  cases es with
                  | nil => have : ents.toList = [] := j2; have : ents = #[] := by simpa using this
                           subst this; simp
                  | cons e0 er =>
                    have := anyLt_run last _ _ j2 hlast
                    rw [← Array.all_toList, this]; simp
              have hleft := leftM_run seen es _ j2
              have hfil : (ents.filter fun e => !(seen.reverse.toArray).contains e.born).toList = ents.toList.filter fun e => !seen.contains e.born := by
                rw [Array.toList_filter]; congr 1; funext e; simp
              have hrun : ∀ (cands : Array (Option MapEntry)) (c : Option MapEntry), (let left := ents.filter fun e => !(seen.reverse.toArray).contains e.born
                  let old := left.filter (·.born < since)
                  let new := left.filter (·.born ≥ since)
                  (if old.isEmpty then #[none] else #[]) ++ (old ++ new).map some) = #[c] →
                  (execOp a.eval o).run P w = ((match c with | some e => (do setObj g (.mapIter (some gm) since (seen.reverse.toArray.push e.born) cl); pure (.value (.tuple #[.bool true, e.key, e.val])) : Sem Next) | none => pure (.value (.tuple #[.bool false]))) : Sem Next).run P w := fun _ c hc => by
                have hf : (Question.mapNext 1).forced = true := rfl
                simp only [execOp, ho, hx, Instr.next, Sem.run_bind, hob, Result.andThen_ok, hob2, hguard, Bool.false_eq_true, if_false]
                simp only at hc
                rw [hc]
                simp only [List.size_toArray, List.length_cons, List.length_nil, Nat.zero_add, run_choose, hf, if_true, Result.andThen_ok]
                cases c with
                | none => simp
                | some c => simp; generalize (setObj g _).run P w = r; cases r <;> rfl
              cases e3 : leftM seen es with
              | nil =>
                rw [e3] at e hleft
                have e : Rv.ok oneOver h nx = .ok av h' nx' := e
                obtain ⟨rfl, rfl, rfl⟩ := ok3 e
                have hl0 : (ents.filter fun e => !(seen.reverse.toArray).contains e.born) = #[] := by
                  apply Array.toList_inj.1; rw [hfil]; exact hleft
                exact same H (by rw [hrun #[] none (by simp only [hl0]; simp)]; simp) over
              | cons en r =>
                rw [e3] at e hleft
                cases r with
                | cons _ _ => cases e
                | nil =>
                  replace ⟨hlt, e⟩ := cut1 e (noBad _)
                  have hlt : en.bn < since := by simpa using hlt
                  obtain ⟨m0, t0, hm0, ⟨v1, v2, v3⟩, hm1⟩ := hleft
                  have hm1 : t0 = [] := hm1
                  subst hm1
                  obtain ⟨rfl, rfl, rfl⟩ := ok3 e
                  have hl0 : (ents.filter fun e => !(seen.reverse.toArray).contains e.born) = #[m0] := by
                    apply Array.toList_inj.1; rw [hfil]; exact hm0
                  have hb : m0.born < since := by rw [v3]; exact hlt
                  have hr := hrun #[] (some m0) (by simp only [hl0]; simp [hb])
                  have hlt2 : g < w.heap.size := (Array.getElem?_eq_some_iff.1 k1).1
                  let w' : World := { w with heap := w.heap.setIfInBounds g (.mapIter (some gm) since (seen.reverse.toArray.push m0.born) cl) }
                  obtain ⟨q2, q3⟩ := H.write (w' := w') (b' := .it (some mid) since (en.bn :: seen) cl) e1 rfl hg (fun k hk => Array.getElem?_setIfInBounds_ne (Ne.symm hk)) (by simp [w']) rfl rfl rfl
                    ⟨some gm, by show (w.heap.setIfInBounds g _)[g]? = _; simp [hlt2, v3], gm, tm, hgm, rfl⟩
                  refine ⟨ρ, .tuple #[.bool true, m0.key, m0.val], w', .inl ?_, ⟨[.bool true, m0.key, m0.val], ⟨_, _, rfl, rfl, _, _, rfl, v1, _, _, rfl, v2, rfl⟩, rfl⟩, q2, q3⟩
                  rw [hr]
                  have hset : (setObj g (.mapIter (some gm) since (seen.reverse.toArray.push m0.born) cl)).run P w = .ok () w' := by simp [setObj, Sem.run, k1, w']
                  simp only [Sem.run_bind, hset, Result.andThen_ok, Sem.run_pure]
  · cases e
theorem ok_ent {x : Operand} (ho : o.op = .entry x) : OpOk P o (on1 (xo x) oEnt) := by
  refine .on1 (by simp [ho, Op.operands]) (Of1.same fun ρ h nx a w xv av h' nx' H hx e => ?_)
  unfold oEnt at e
  split at e
  · rename_i id
    obtain ⟨g, t', hg, hx⟩ := hx
    cases e1 : getP id h with
    | none => rw [e1] at e; cases e
    | some b =>
      rw [e1] at e
      cases b with
      | ce _ _ _ _ => cases e
      | ch _ _ _ _ => cases e
      | mp _ _ => cases e
      | it m since seen last =>
        obtain ⟨mm, k1, k2⟩ := getP_it H e1 hg
        have hob : (getObj g).run P w = .ok (.mapIter mm since seen.reverse.toArray last) w := by simp [getObj, Sem.run, k1]
        simp only at e
        unfold oEnt2 at e
        cases m with
        | none => cases e
        | some mid =>
          obtain ⟨gm, tm, hgm, rfl⟩ := k2
          cases seen with
          | nil => cases e
          | cons st sr =>
            simp only at e
            cases e2 : getP mid h with
            | none => rw [e2] at e; cases e
            | some bm =>
              rw [e2] at e
              cases bm with
              | ce _ _ _ _ => cases e
              | ch _ _ _ _ => cases e
              | it _ _ _ _ => cases e
              | mp es cl =>
                obtain ⟨ents, j1, j2⟩ := getP_mp H e2 hgm
                have hob2 : (getObj gm).run P w = .ok (.map ents cl) w := by simp [getObj, Sem.run, j1]
                replace ⟨hcl, e⟩ := cut1 e (noBad _)
                have hcl := Nat.eq_of_beq_eq_true hcl
                cases e3 : findB st es with
                | none => rw [e3] at e; cases e
                | some n =>
                  rw [e3] at e
                  simp only at e
                  obtain ⟨_, m, en, f2, f3, ⟨f4, f5, f6⟩, f7⟩ := findB_run st es _ n j2 e3
                  rw [f3] at e
                  obtain ⟨rfl, rfl, rfl⟩ := ok3 e
                  refine ⟨rfl, rfl, .tuple #[m.key, m.val], ?_, tp2 f4 f5⟩
                  have hback : ((st :: sr).reverse.toArray).back? = some st := by simp
                  have hfind : ents.find? (fun e => e.born == st) = some m := by rw [← Array.find?_toList]; exact f7
                  have hc2 : (cl != last) = false := by simp [hcl]
                  simp only [execOp, ho, hx, Instr.entry, Sem.run_bind, hob, Result.andThen_ok, hback, hob2, hc2, Bool.false_eq_true, if_false, hfind, Sem.run_pure]
  · cases e
end
end Go.Ev
end

section
open Go
namespace Go.Ev
section
variable {P : Program}
/-- What the calls that a function makes are taken to do. -/
def CallOk (P : Program) (c : CallF) : Prop := ∀ f args h nx av h' nx' ρ w vs, HR ρ h nx w → Vs ρ args vs → c f args h nx = .ok av h' nx' →
  okFn P f = true ∧ Calls P f vs.toArray w (fun e w' => ∃ ρ' v, e = .returned v ∧ V ρ' av v ∧ HR ρ' h' nx' w' ∧ Stp ρ h w ρ' h' w')
/-- An operation, calls too. -/
def OpW (P : Program) (o : Oper) (f : OpF) : Prop := ∀ ρ α h nx (a : Act) w av h' nx', HR ρ h nx w → XR ρ α a o.op.operands.toList → f α h nx = .ok av h' nx' →
  ∀ (next : Act → World → Prop) (Q : Exit → Act → World → Prop), (∀ ρ' v w', V ρ' av v → HR ρ' h' nx' w' → Stp ρ h w ρ' h' w' → next (a.put o.dst v) w') → o.wp P a w next Q
theorem OpOk.w {o : Oper} {f : OpF} (h : OpOk P o f) : OpW P o f := fun ρ α h' nx a w av h'' nx' H hX e next Q hn => by
  obtain ⟨ρ', v, w', h1, h2, h3, h4⟩ := h ρ α h' nx a w av h'' nx' H hX e
  rcases h1 with h1 | ⟨h1, rfl⟩
  · show o.upon P a next Q _; rw [h1]; exact hn _ _ _ h2 h3 h4
  · show o.upon P a next Q _; rw [h1]; exact hn _ _ _ h2 h3 h4
theorem OpOk.bad {o : Oper} {f : OpF} {n : Nat} (h : ∀ α h nx, f α h nx = .bad n) : OpOk P o f := fun ρ α h' nx a w av h'' nx' _ _ e => by rw [h] at e; cases e
theorem okFn_fn {f : Nat} (h : okFn P f = true) : ∃ fn, P.funcs[f]? = some fn ∧ (fn.name == "runtime.NumGoroutine") = false ∧ fn.body.isNone = false := by
  unfold okFn at h
  split at h
  · rename_i fn hf
    obtain ⟨h1, h2⟩ := and_ok h
    exact ⟨fn, hf, by simpa using h1, by simpa using h2⟩
  · cases h
theorem callFunc_run {f : Nat} (h : okFn P f = true) (args : Array Value) (w : World) : (callFunc f args).run P w = .ok (.enter f args) w := by
  obtain ⟨fn, h1, h2, h3⟩ := okFn_fn h
  simp only [callFunc, Sem.run_bind, run_program, Result.andThen_ok, h1, h2, Bool.false_eq_true, if_false, h3, Sem.run_pure]
theorem call_w {o : Oper} {cl : Call} {c : CallF} (hC : CallOk P c) {x : Operand} (ho : o.op = .call cl) (hx : cl.callee = .value x) {fn : Nat} {first cap args av : AV} {ρ : Ren} {h h' : Hp} {nx nx' : Pa} {a : Act} {w : World} (H : HR ρ h nx w)
    (hv : V ρ (.f fn first cap) (a.eval x)) (ha : Vs ρ args (cl.args.toList.map a.eval)) (e : c fn (appA first (appA args cap)) h nx = .ok av h' nx')
    (next : Act → World → Prop) (Q : Exit → Act → World → Prop) (hn : ∀ ρ' v w', V ρ' av v → HR ρ' h' nx' w' → Stp ρ h w ρ' h' w' → next (a.put o.dst v) w') : o.wp P a w next Q := by
  obtain ⟨p, q, h1, h2, hv⟩ := hv
  obtain ⟨h3, h4⟩ := hC fn _ h nx av h' nx' ρ w _ H (Vs_app (Vs_app h2 _ _ ha) _ _ h1) e
  have hr : (execOp a.eval o).run P w = .ok (.enter fn (p ++ (cl.args.toList.map a.eval ++ q)).toArray) w := by
    have harr : p.toArray ++ cl.args.map a.eval ++ q.toArray = (p ++ (cl.args.toList.map a.eval ++ q)).toArray := by apply Array.toList_inj.1; simp
    simp only [execOp, ho, resolve, hx, hv, Deferred.ofValue, Sem.run_bind, Sem.run_pure, Result.andThen_ok, invoke, callFunc_run h3, harr]
  show o.upon P a next Q _
  rw [hr]
  refine Calls.mono h4 fun e w' ⟨ρ', v, h5, h6, h7, h8⟩ => ?_
  subst h5
  exact hn ρ' v w' h6 h7 h8
theorem callee_f {o : Oper} {cl : Call} {c : CallF} (hC : CallOk P c) {f : Nat} (ho : o.op = .call cl) (hx : cl.callee = .value (.func f)) : OpW P o (evI c (.call f (xos cl.args))) := fun ρ α h nx a w av h' nx' H hX e next Q hn => by
  have e : oCall f (xos cl.args) c α h nx = .ok av h' nx' := e
  unfold oCall at e
  cases e1 : exs (xos cl.args) α with
  | none => rw [e1] at e; cases e
  | some l =>
    rw [e1] at e
    have hl := exs_Vs (a := a) cl.args.toList (fun x hx' => hX x (by rw [ho]; simp only [Op.operands, Call.operands, hx]; simp; exact .inr (by simpa using hx'))) l e1
    have h0 : ∀ r : AV, appA AV.nl (appA r .nl) = r → True := fun _ _ => trivial
    have hv : V ρ (.f f .nl .nl) (a.eval (.func f)) := ⟨[], [], rfl, rfl, rfl⟩
    obtain ⟨h3, h4⟩ := hC f l h nx av h' nx' ρ w _ H hl e
    have hr : (execOp a.eval o).run P w = .ok (.enter f (cl.args.toList.map a.eval).toArray) w := by
      have harr : #[] ++ cl.args.map a.eval ++ #[] = (cl.args.toList.map a.eval).toArray := by apply Array.toList_inj.1; simp
      simp only [execOp, ho, resolve, hx, Act.eval, Deferred.ofValue, Sem.run_bind, Sem.run_pure, Result.andThen_ok, invoke, callFunc_run h3, harr]
    show o.upon P a next Q _
    rw [hr]
    refine Calls.mono h4 fun e w' ⟨ρ', v, h5, h6, h7, h8⟩ => ?_
    subst h5
    exact hn ρ' v w' h6 h7 h8
theorem callee_v {o : Oper} {cl : Call} {c : CallF} (hC : CallOk P c) {x : Operand} (ho : o.op = .call cl) (hx : cl.callee = .value x) : OpW P o (evI c (.callv (xo x) (xos cl.args))) := fun ρ α h nx a w av h' nx' H hX e next Q hn => by
  have e : oCallv (xo x) (xos cl.args) c α h nx = .ok av h' nx' := e
  unfold oCallv at e
  cases e0 : eX (xo x) α with
  | none => rw [e0] at e; cases e
  | some g =>
    rw [e0] at e
    cases e1 : exs (xos cl.args) α with
    | none => simp only [e1] at e; cases e
    | some l =>
      simp only [e1] at e
      have hl := exs_Vs (a := a) cl.args.toList (fun x hx' => hX x (by rw [ho]; simp only [Op.operands, Call.operands, hx]; simp; exact .inr (by simpa using hx'))) l e1
      have hg := hX x (by rw [ho]; simp [Op.operands, Call.operands, hx]) g e0
      split at e
      · exact call_w hC ho hx H hg hl e next Q hn
      · cases e
theorem bad_ok {o : Oper} {c : CallF} : OpOk P o (evI c .bad) := OpOk.bad (n := 99) fun _ _ _ => rfl
end
end Go.Ev
end

section
open Go
namespace Go.Ev
section
variable {P : Program}
theorem sz_ne {t : TypeId} (h : szT P t ≠ 0) : ∃ i, P.info? t = some i := by
  cases hi : P.info? t with
  | none => simp [szT, Program.cellsOf, hi] at h
  | some i => exact ⟨i, rfl⟩
theorem conv_w {o : Oper} {c : CallF} {s d : TypeId} {x : Operand} (ho : o.op = .convert s d x) : OpOk P o (evI c (cConv P s d (xo x))) := by
  unfold cConv
  split
  · rename_i h1 h2; exact ok_cvi ho h1 h2
  · rename_i h1 h2; exact ok_cvs ho h1 h2
  · rename_i h1 h2; split
    · rename_i h3; exact ok_s2b ho h1 h2 h3
    · exact bad_ok
  · rename_i h1 h2; split
    · rename_i h3; exact ok_b2s ho h1 h3 h2
    · exact bad_ok
  · rename_i h1 h2; split
    · rename_i h3 h4; exact ok_cbb ho h1 h2 h3 h4
    · exact bad_ok
  · exact bad_ok
theorem eql_w {o : Oper} {c : CallF} {ne : Bool} {t u : TypeId} {x y : Operand} (ho : o.op = .binOp (if ne then .neq else .eql) t x y u) : OpOk P o (evI c (cEql P ne t (if ne then .neq else .eql) (xo x) (xo y))) := by
  unfold cEql
  split
  · exact ok_bin ho
  · exact ok_bin ho
  · rename_i h1; exact ok_eqb ho h1
  · rename_i h1; exact ok_eqn (k := .p) ho ⟨_, h1⟩
  · rename_i h1; exact ok_eqn (k := .s) ho ⟨_, h1⟩
  · rename_i h1; exact ok_eqn (k := .m) ho ⟨_, _, h1⟩
  · rename_i h1; exact ok_eqn (k := .f) ho ⟨_, _, _, h1⟩
  · rename_i fs h1
    cases hf : flatT P t with
    | false => exact bad_ok
    | true => exact ok_eqa ho h1 hf
  · exact bad_ok
theorem cons_map {α β : Type} {f : α → β} {l : List α} {y : β} {r : List β} (h : l.map f = y :: r) : ∃ x t, l = x :: t ∧ y = f x ∧ r = t.map f := by
  cases l with
  | nil => cases h
  | cons x t => simp at h; exact ⟨x, t, rfl, h.1.symm, h.2.symm⟩
theorem blt_w {o : Oper} {c : CallF} {cl : Call} {b : Builtin} (ho : o.op = .call cl) (hc : cl.callee = .builtin b) : OpOk P o (evI c (cBlt P b cl.argTypes.toList (xos cl.args))) := by
  unfold cBlt
  split
  · -- len
    rename_i t ts x l h1 h2
    obtain ⟨y, r, h3, rfl, rfl⟩ := cons_map h2
    split
    · rename_i ht; exact ok_len (k := .s) ho hc h1 h3 ht
    · rename_i ht; exact ok_len (k := .l) ho hc h1 h3 ⟨_, ht⟩
    · rename_i ht; exact ok_len (k := .m) ho hc h1 h3 ⟨_, _, ht⟩
    · rename_i ht; exact ok_len (k := .c) ho hc h1 h3 ⟨_, _, ht⟩
    · exact bad_ok
  · -- cap
    rename_i t ts x l h1 h2
    obtain ⟨y, r, h3, rfl, rfl⟩ := cons_map h2
    split
    · rename_i ht; exact ok_cap ho hc h1 h3 ht
    · exact bad_ok
  · -- append
    rename_i t u ts x y l h1 h2
    obtain ⟨x', r, h3, rfl, h4⟩ := cons_map h2
    obtain ⟨y', r', rfl, rfl, rfl⟩ := cons_map h4.symm
    split
    · rename_i e ht
      cases hel : okEl P e with
      | false => exact bad_ok
      | true =>
        simp only [cond_true]
        split
        · rename_i k hu
          split
          · rename_i z hz; exact ok_appz ho hc h1 h3 ht hel hu hz
          · exact bad_ok
        · rename_i d hd hu; exact ok_app ho hc h1 h3 ht hel hu (fun k hk => hd k hk)
        · exact bad_ok
    · exact bad_ok
  · -- copy
    rename_i t ts x y l h1 h2
    obtain ⟨x', r, h3, rfl, h4⟩ := cons_map h2
    obtain ⟨y', r', rfl, rfl, rfl⟩ := cons_map h4.symm
    split
    · rename_i e ht
      cases hz : Nat.beq (szT P e) 0 with
      | true => exact bad_ok
      | false => exact ok_cpy ho hc h1 h3 ht (sz_ne (Nat.ne_of_beq_eq_false hz))
    · exact bad_ok
  · -- min
    rename_i ts x l h2
    obtain ⟨y, r, h3, rfl, rfl⟩ := cons_map h2
    exact ok_mm (lt := true) ho hc h3
  · rename_i ts x l h2
    obtain ⟨y, r, h3, rfl, rfl⟩ := cons_map h2
    exact ok_mm (lt := false) ho hc h3
  · -- delete
    rename_i t ts x y l h1 h2
    obtain ⟨x', r, h3, rfl, h4⟩ := cons_map h2
    obtain ⟨y', r', rfl, rfl, rfl⟩ := cons_map h4.symm
    split
    · rename_i ht; exact ok_del ho hc h1 h3 ht
    · exact bad_ok
  · -- clear
    rename_i t ts x l h1 h2
    obtain ⟨y, r, h3, rfl, rfl⟩ := cons_map h2
    split
    · rename_i e ht
      cases hel : okEl P e with
      | false => exact bad_ok
      | true =>
        simp only [cond_true]
        split
        · rename_i z hz; exact ok_clr ho hc h1 h3 ht hel hz
        · exact bad_ok
    · exact bad_ok
  · exact bad_ok
theorem fld_und {s : TypeId} {n off : Nat} {t : TypeId} {d : TypeDesc} (_ : fldT P s n = some (off, t)) (hd : P.underlying t = some d) : P.underlying t = some d := hd
theorem cO_ok (o : Oper) (c : CallF) : OpOk P o (evI c (cO P o)) ∨ ∃ cl x, o.op = .call cl ∧ cl.callee = .value x := by
  unfold cO
  split
  · rename_i x ho; exact .inl (ok_mv (.inl ho))
  · rename_i x ho; exact .inl (ok_mv (.inr ho))
  · rename_i ho; exact .inl (ok_pick ho)
  · rename_i t ho; split
    · rename_i z hz; exact .inl (ok_new ho hz)
    · exact .inl bad_ok
  · rename_i ho; exact .inl (ok_box ho)
  · rename_i t ps ho
    split
    · rename_i fs ht
      cases hf : infos P fs.toList with
      | false => exact .inl bad_ok
      | true =>
        simp only [cond_true]
        split
        · rename_i z l hz hl; exact .inl (ok_build ho ht hf hz hl)
        · exact .inl bad_ok
    · rename_i n e ht
      split
      · rename_i i z hi hz; exact .inl (ok_buildA ho ht ⟨_, hi⟩ hz)
      · exact .inl bad_ok
    · exact .inl bad_ok
  · rename_i t n ps ho
    split
    · rename_i e ht
      cases hel : okEl P e with
      | false => exact .inl bad_ok
      | true =>
        simp only [cond_true]
        split
        · rename_i z hz
          cases hn : Nat.ble (n * szT P e) 100000 with
          | false => exact .inl bad_ok
          | true => exact .inl (ok_bsl ho ht hel hz (Nat.le_of_ble_eq_true hn))
        · exact .inl bad_ok
    · exact .inl bad_ok
  · rename_i t x ho
    cases hd : P.underlying t with
    | none => exact .inl bad_ok
    | some d =>
      simp only
      cases hg : aggT P t with
      | true => exact .inl (ok_lda ho hd hg)
      | false => exact .inl (ok_ld ho hd hg)
  · rename_i t x y ho
    cases hi : P.info? t with
    | none => exact .inl bad_ok
    | some i => exact .inl (ok_st (d := .invalid) ho ⟨i, hi⟩)
  · rename_i ho; exact .inl (ok_nilc ho)
  · rename_i op t x y u ho
    split
    · exact .inl (eql_w (ne := false) ho)
    · exact .inl (eql_w (ne := true) ho)
    · exact .inl (ok_bin ho)
  · rename_i ho; exact .inl (ok_un ho)
  · rename_i ho; exact .inl (conv_w ho)
  · rename_i ho; exact .inl (ok_mkf ho)
  · rename_i ho; exact .inl (ok_mkm ho)
  · rename_i t x ho
    split
    · rename_i d e ht
      split
      · rename_i i hi
        cases hb : Nat.ble i.bytes 100000 with
        | false => exact .inl bad_ok
        | true => exact .inl (ok_mkc ho ht hi (Nat.le_of_ble_eq_true hb))
      · exact .inl bad_ok
    · exact .inl bad_ok
  · rename_i t l cp ho
    split
    · rename_i e ht
      cases hel : okEl P e with
      | false => exact .inl bad_ok
      | true =>
        simp only [cond_true]
        split
        · rename_i z hz; exact .inl (ok_mks ho ht hel hz)
        · exact .inl bad_ok
    · exact .inl bad_ok
  · rename_i t x lo hi mx ho
    split
    · rename_i ht
      split
      · exact .inl (ok_sls ho ht)
      · exact .inl bad_ok
    · rename_i e ht
      cases hz : Nat.beq (szT P e) 0 with
      | true => exact .inl bad_ok
      | false => exact .inl (ok_slc ho ht (sz_ne (Nat.ne_of_beq_eq_false hz)))
    · rename_i n e ht
      split
      · cases hz : Nat.beq (szT P e) 0 with
        | true => exact .inl bad_ok
        | false => exact .inl (ok_sla ho ht (sz_ne (Nat.ne_of_beq_eq_false hz)))
      · exact .inl bad_ok
    · exact .inl bad_ok
  · rename_i s x f ho
    split
    · rename_i off t hf
      cases hz : Nat.beq (szT P t) 0 with
      | true => exact .inl bad_ok
      | false => exact .inl (ok_fa ho hf (Nat.ne_of_beq_eq_false hz))
    · exact .inl bad_ok
  · rename_i s x f ho
    split
    · rename_i off t hf
      cases hd : P.underlying t with
      | none => exact .inl bad_ok
      | some d => exact .inl (ok_fld ho hf hd)
    · exact .inl bad_ok
  · rename_i t x y ho
    split
    · rename_i e ht
      cases hz : Nat.beq (szT P e) 0 with
      | true => exact .inl bad_ok
      | false => exact .inl (ok_ia ho ht (sz_ne (Nat.ne_of_beq_eq_false hz)))
    · rename_i n e ht
      cases hz : Nat.beq (szT P e) 0 with
      | true => exact .inl bad_ok
      | false => exact .inl (ok_iaa ho ht (sz_ne (Nat.ne_of_beq_eq_false hz)))
    · exact .inl bad_ok
  · rename_i t x y ho
    split
    · rename_i ht; exact .inl (ok_idx ho ht)
    · rename_i n e ht
      cases hd : P.underlying e with
      | none => exact .inl bad_ok
      | some d => exact .inl (ok_ixa ho ht hd)
    · exact .inl bad_ok
  · rename_i t m k ok ho
    split
    · rename_i q e ht
      split
      · rename_i z hz; exact .inl (ok_lkp ho ht hz)
      · exact .inl bad_ok
    · exact .inl bad_ok
  · rename_i t m k v ho
    split
    · rename_i ht; exact .inl (ok_mup (.inl ho) ht)
    · exact .inl bad_ok
  · rename_i t m k v ho
    split
    · rename_i ht; exact .inl (ok_mup (.inr ho) ht)
    · exact .inl bad_ok
  · rename_i t m k ho
    split
    · rename_i q e ht
      split
      · rename_i z hz; exact .inl (ok_ment ho ht hz)
      · exact .inl bad_ok
    · exact .inl bad_ok
  · rename_i ho; exact .inl (ok_mst ho)
  · rename_i t x ho
    split
    · rename_i ht; exact .inl (ok_rng ho ht)
    · exact .inl bad_ok
  · rename_i ho; exact .inl (ok_nxt ho)
  · rename_i ho; exact .inl (ok_ent ho)
  · rename_i ho; exact .inl (ok_ext ho)
  · rename_i cl ho
    split
    · rename_i hx; exact .inr ⟨_, _, ho, hx⟩
    · rename_i hx; exact .inr ⟨_, _, ho, hx⟩
    · rename_i hx; exact .inl (blt_w ho hx)
    · exact .inl bad_ok
  · exact .inl bad_ok
theorem cO_w (o : Oper) {c : CallF} (hC : CallOk P c) : OpW P o (evI c (cO P o)) := by
  rcases cO_ok (P := P) o c with h | ⟨cl, x, ho, hx⟩
  · exact h.w
  · cases x with
    | func f =>
      have : cO P o = .call f (xos cl.args) := by unfold cO; rw [ho]; simp only [hx]
      rw [this]; exact callee_f hC ho hx
    | tmp t =>
      have : cO P o = .callv (xo (.tmp t)) (xos cl.args) := by unfold cO; rw [ho]; simp only [hx]
      rw [this]; exact callee_v hC ho hx
    | const v =>
      have : cO P o = .callv (xo (.const v)) (xos cl.args) := by unfold cO; rw [ho]; simp only [hx]
      rw [this]; exact callee_v hC ho hx
    | global g =>
      have : cO P o = .callv (xo (.global g)) (xos cl.args) := by unfold cO; rw [ho]; simp only [hx]
      rw [this]; exact callee_v hC ho hx
end
end Go.Ev
end
