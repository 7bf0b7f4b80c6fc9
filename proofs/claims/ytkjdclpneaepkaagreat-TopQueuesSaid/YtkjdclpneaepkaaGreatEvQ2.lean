/- Which session has it: the walk, and its hook. Which session has it: the hook. A thing is put into a row: the walks, and the hooks. -/
import Derived.Test.YtkjdclpneaepkaaGreatBase
import Derived.Test.YtkjdclpneaepkaaGreatEvQ1
import Derived.Maps.RangeWalk
import Derived.Deep.CutRange
import Derived.Lib.SlKeysI
import Derived.Maps.OwnSet
import Derived.Maps.OwnOps
import Derived.Maps.Views
import Derived.Test.YtkjdclpneaepkaaGreatEvP1
import Derived.Laws.Externs
import Derived.Laws.CopyRow
import Derived.Laws.CopyOwn
import Derived.Lib.AppendZerosOnto
import Derived.Lib.Overlaps
import Derived.Deep.RegionHeld
set_option linter.unusedVariables false
section
open Go Go.Proofs Go.RowKit Go.Maps
namespace Go.Proofs.YtkjdclpneaepkaaGreat
abbrev KI (x : Int) : Prop := (Lit.int .i64 x).wf = true
/-- What Of finds: a session that has it, or none. -/
def OfIs (K : List Int) (td : Int → Int) (t r : Int) : Prop := (t ≠ 0 ∧ r ∈ K ∧ td r = t) ∨ (r = 0 ∧ (t = 0 ∨ ∀ y ∈ K, td y ≠ t))
theorem sof_zero {p : Nat} (q : Value) (w : World) (hq : q = .pointer none ∨ q = .pointer (some ⟨p, 0, none⟩)) : Calls Tryz.prog 131 #[q, .int .i64 0] w fun e w' => e = .returned (.int .i64 0) ∧ w' = w := by
  rcases hq with rfl | rfl
  · go_enter Tryz.func131, Tryz.ntmps131
    go_wp2_with fail
    go_ret
    exact ⟨rfl, rfl⟩
  · go_enter Tryz.func131, Tryz.ntmps131
    go_wp2_with fail
    go_ret
    exact ⟨rfl, rfl⟩
theorem sof_nil (t : Int) (w : World) : Calls Tryz.prog 131 #[.pointer none, .int .i64 t] w fun e w' => e = .returned (.int .i64 0) ∧ w' = w := by
  go_enter Tryz.func131, Tryz.ntmps131
  go_wp2_with fail
  go_ret
  exact ⟨rfl, rfl⟩
set_option maxRecDepth 8000 in
theorem sof_any (wr : World) (p mb nb : Nat) (K : List Int) (td : Int → Int) (D : DataW Unit) (c2 : wr.cell? ⟨p, 2, none⟩ = some (.map (some mb))) (h0 : ∀ y ∈ K, KI y) (hown : wr.ownsMap Tryz.prog 2 (plainElem Tryz.prog 2) mb nb D)
    (hhas : ∀ y, KI y → Maps.has D (.int .i64 y) = decide (y ∈ K)) (hatk : ∀ y, KI y → D.atKey (.int .i64 y) (.lit (.int .i64 0)) = .lit (.int .i64 (if y ∈ K then td y else 0))) (t : Int) (ht : t ≠ 0) :
    Calls Tryz.prog 131 #[.pointer (some ⟨p, 0, none⟩), .int .i64 t] wr fun e w' => ∃ r, e = .returned (.int .i64 r) ∧ OfIs K td t r ∧ Keep NoF wr w' := by
  have hlt := hown.lt
  have ht2 : decide (t = 0) = false := decide_eq_false ht
  have ht3 : (t == 0) = false := by simpa using ht
  have HO := Lib.hid hown; have HH := Lib.hid hhas; have HAT := Lib.hid hatk; have H0 := Lib.hid h0; have HT0 := Lib.hid ht
  clear hown hhas hatk h0
  go_enter Tryz.func131, Tryz.ntmps131
  go_upto_region 4 with (at_range; refine wpList_range_own _ rfl _ 291 rfl 2 2 (int_keyed Tryz.underlying2) Tryz.underlying291 _ mb nb D rfl HO.out ?_; intro w1 hrg1 hg1 hs1)
  have K1 := Lib.hid ((Keep.refl NoF wr).grown hg1 (fun k _ e => by cases e))
  obtain ⟨R, hR⟩ : ∃ R, wr.heap.size = R := ⟨_, rfl⟩
  have hfin : ∀ wz, Keep (fun k => k = R) w1 wz → Keep NoF wr wz := fun wz hz => K1.out.trans hz (fun _ _ f => f) (fun k hk e => by omega)
  have HF := Lib.hid hfin
  rw [hR] at hrg1 hs1
  rw [hR]
  have HRG := Lib.hid hrg1
  clear hrg1 hg1 hfin hR
  have hleft0 : ∀ y, KI y → Maps.has D (.int .i64 y) = decide (y ∈ K) := HH.out
  clear c2
  simp only [Act.put, List.setIfInBounds_toArray, List.set_cons_succ, List.set_cons_zero]
  go_loopw [] (fun wr => ∃ (left : Lit → Bool) (cnt : Nat), wr.ranges Tryz.prog 2 (plainElem Tryz.prog 2) mb R nb D left cnt ∧ Keep (fun k => k = R) w1 wr ∧ (∀ y, KI y → left (.int .i64 y) = true → y ∈ K) ∧ (∀ y, y ∈ K → left (.int .i64 y) = false → td y ≠ t)) (fun wr => wr.rangeLeft mb R)
  case atStart => exact ⟨_, _, HRG.out, Keep.refl _ _, fun y hy h => by rw [hleft0 y hy] at h; exact of_decide_eq_true h, fun y hy h => by rw [hleft0 y (H0.out y hy)] at h; exact absurd hy (of_decide_eq_false h)⟩
  case round =>
    obtain ⟨left, cnt, hrg, hk, hl1, hl2⟩ := hrel
    have HK := Lib.hid hk; have HL1 := Lib.hid hl1; have HL2 := Lib.hid hl2; have HRG2 := Lib.hid hrg
    clear hk hl1 hl2 hrg hleft0
    go_wp2_with (at_next; refine wpList_next_ranges_ii _ rfl _ rfl 2 2 .i64 .i64 (int_keyed Tryz.underlying2) Tryz.underlying2 Tryz.underlying2 mb R nb _ _ _ rfl HRG2.out ?_ ?_)
    · intro hc0 hl0
      have HL0 := Lib.hid hl0
      clear hl0
      go_wp2_with fail
      go_ret
      exact ⟨0, rfl, .inr ⟨rfl, .inr fun y hy => HL2.out y hy (HL0.out _)⟩, HF.out _ HK.out⟩
    · intro x c w2 cnt1 hwx hwc hlx hat hrg1 hlt hg1 hs1 hen
      have hxk : x ∈ K := HL1.out x hwx hlx
      have htc : td x = c := by
        have h1 := HAT.out x hwx
        rw [hat, if_pos hxk] at h1
        injection h1 with h1; injection h1 with _ h1
        exact h1.symm
      have hk2 : Keep (fun k => k = R) w1 w2 := HK.out.grown hg1 (fun k _ e => (Option.some.inj e).symm)
      have HRG1 := Lib.hid hrg1; have HXK := Lib.hid hxk; have HTC := Lib.hid htc; have HK2 := Lib.hid hk2; have HLT := Lib.hid hlt; have HLX := Lib.hid hlx
      clear hrg1 hxk htc hk2 hlt hlx hat hg1 hs1 hwx hwc
      by_cases e : c = t
      · subst e
        have hd : decide (c = c) = true := decide_eq_true rfl
        go_wp2_with fail
        go_ret
        exact ⟨x, rfl, .inl ⟨HT0.out, HXK.out, HTC.out⟩, HF.out _ HK2.out⟩
      · have hd : decide (c = t) = false := decide_eq_false e
        have hd3 : (c == t) = false := by simpa using e
        go_wp2_with fail
        go_roundw
        case rel =>
          refine ⟨_, cnt1, HRG1.out, HK2.out, fun y hy h => ?_, fun y hy h => ?_⟩
          · rw [Bool.and_eq_true] at h
            exact HL1.out y hy h.1
          · rw [Bool.and_eq_false_iff] at h
            rcases h with h | h
            · exact HL2.out y hy h
            · have h2 := WideAt.sameKey_eq (a := Lit.int .i64 y) (b := Lit.int .i64 x) (by simpa using h)
              injection h2 with _ h2
              rw [h2, HTC.out]; exact e
        case measure => rw [HRG1.out.left_eq, HRG2.out.left_eq]; exact HLT.out
end Go.Proofs.YtkjdclpneaepkaaGreat
end

section
open Go Go.Proofs Go.Maps
open Go.WideElems (Fit rg)
open Go.Ev (HookAt HR V Vs AV ME ERs keyI kvI fsts findV hOf Gr)
namespace Go.Proofs.YtkjdclpneaepkaaGreat
theorem kvI_ok {ρ : Go.Ev.Ren} : ∀ {es : List ME} {ents : List MapEntry} {l : List (Nat × Nat)}, kvI es = some l → ERs ρ es ents → ents.map (fun m => (m.key, m.val)) = l.map (fun p => (encN p.1, encN p.2)) ∧ ∀ p ∈ l, p.1 < 9223372036854775808 ∧ p.2 < 9223372036854775808
  | [], ents, l, e, h => by cases e; cases (show ents = [] from h); exact ⟨rfl, by simp⟩
  | x :: es, ents, l, e, h => by
    obtain ⟨m, t, rfl, ⟨h1, h2, _⟩, h3⟩ := h
    have e : (Option.casesOn (keyI x.k) none fun k => Option.casesOn (keyI x.v) none fun v => Option.casesOn (kvI es) none fun r => some ((k, v) :: r) : Option (List (Nat × Nat))) = some l := e
    cases e1 : keyI x.k with
    | none => rw [e1] at e; cases e
    | some k =>
      cases e2 : keyI x.v with
      | none => rw [e1, e2] at e; cases e
      | some v =>
        cases e3 : kvI es with
        | none => rw [e1, e2, e3] at e; cases e
        | some r =>
          rw [e1, e2, e3] at e; cases e
          obtain ⟨q1, q2⟩ := keyI_ok ρ _ _ _ e1 h1
          obtain ⟨q3, q4⟩ := keyI_ok ρ _ _ _ e2 h2
          obtain ⟨q5, q6⟩ := kvI_ok e3 h3
          exact ⟨by rw [List.map_cons, List.map_cons, q1, q3, q5], fun p hp => by
            rcases List.mem_cons.1 hp with rfl | hp
            · exact ⟨q2, q4⟩
            · exact q6 p hp⟩
theorem findV_mem {t k : Nat} : ∀ {l : List (Nat × Nat)}, k ∈ findV t l ↔ (k, t) ∈ l
  | [] => by simp [findV]
  | p :: l => by
    have e : findV t (p :: l) = (bif Nat.beq p.2 t then p.1 :: findV t l else findV t l) := rfl
    rw [e]
    cases h : Nat.beq p.2 t with
    | true =>
      have h := Nat.eq_of_beq_eq_true h
      rw [cond_true, List.mem_cons, List.mem_cons, findV_mem]
      obtain ⟨a, b⟩ := p
      simp only at h; subst h
      simp
    | false =>
      rw [cond_false, List.mem_cons, findV_mem]
      refine ⟨.inr, fun q => q.resolve_left fun e => ?_⟩
      rw [← e] at h
      exact Nat.ne_of_beq_eq_false h rfl
theorem fsts_eq : ∀ l : List (Nat × Nat), fsts l = l.map (·.1)
  | [] => rfl
  | p :: l => by show p.1 :: fsts l = _; rw [fsts_eq l]; rfl
def tdOf (l : List (Nat × Nat)) (y : Int) : Int := match l.find? (fun p => decide ((p.1 : Int) = y)) with | some p => p.2 | none => 0
theorem tdOf_is {l : List (Nat × Nat)} (h : (l.map (·.1)).Nodup) {k v : Nat} (hm : (k, v) ∈ l) : tdOf l k = v := by
  unfold tdOf
  induction l with
  | nil => cases hm
  | cons p l ih =>
    rw [List.map_cons, List.nodup_cons] at h
    rcases List.mem_cons.1 hm with rfl | hm
    · simp
    · have hne : p.1 ≠ k := fun e => h.1 (List.mem_map.2 ⟨(k, v), hm, e.symm⟩)
      rw [List.find?_cons, decide_eq_false (by omega)]
      exact ih h.2 hm
theorem ownsK {w : World} {b clk : Nat} {ents : Array MapEntry} (hb : w.heap[b]? = some (.map ents clk)) (hst : MapKept.Stamped ents clk) (hsz : ents.size ≤ 1000000) {l : List (Nat × Nat)} (h1 : ents.toList.map (fun m => (m.key, m.val)) = l.map (fun p => (encN p.1, encN p.2))) (h2 : ∀ p ∈ l, p.1 < 9223372036854775808 ∧ p.2 < 9223372036854775808) (hn : (l.map (·.1)).Nodup) :
    ∃ D : DataW Unit, w.ownsMap Tryz.prog 2 (plainElem Tryz.prog 2) b ents.size D ∧ (∀ y, KI y → Maps.has D (.int .i64 y) = decide (y ∈ l.map fun p => (p.1 : Int))) ∧
      ∀ y, KI y → D.atKey (.int .i64 y) (.lit (.int .i64 0)) = .lit (.int .i64 (if y ∈ (l.map fun p => (p.1 : Int)) then tdOf l y else 0)) := by
  have hm : ∀ m ∈ ents.toList, ∃ p ∈ l, m.key = encN p.1 ∧ m.val = encN p.2 := fun m hm => by
    have : (m.key, m.val) ∈ ents.toList.map (fun m => (m.key, m.val)) := List.mem_map.2 ⟨m, hm, rfl⟩
    rw [h1] at this
    obtain ⟨p, hp, e⟩ := List.mem_map.1 this
    injection e with e1 e2
    exact ⟨p, hp, e1.symm, e2.symm⟩
  have wfN : ∀ {n : Nat}, n < 9223372036854775808 → (Lit.int .i64 (n : Int)).wf = true := fun {n} h => WalkArith.wf_i64 (by omega)
  have hrd : ∀ (p : Nat × Nat) (m : MapEntry), p ∈ l → m.key = encN p.1 → m.val = encN p.2 → WideElems.rd Tryz.prog 2 (plainElem (H := Unit) Tryz.prog 2) m = some (.int .i64 (p.1 : Int), .lit (.int .i64 (p.2 : Int))) := fun p m hp e1 e2 => by
    unfold WideElems.rd
    rw [e1, e2]
    have k1 := keyOf_int_mk (P := Tryz.prog) (k := 2) Tryz.underlying2 (wfN (h2 p hp).1)
    have k2 := plainElem_int (H := Unit) (P := Tryz.prog) (e := 2) Tryz.underlying2 (wfN (h2 p hp).2)
    unfold encN
    simp only [Int.ofNat_eq_natCast, k1, k2, Option.bind_some, Option.map_some]
  have hF : Fit Tryz.prog 2 (plainElem (H := Unit) Tryz.prog 2) ents clk := ⟨by unfold maxLen; omega, hst, fun x hx => by
    obtain ⟨p, hp, e1, e2⟩ := hm x hx
    exact ⟨_, hrd p x hp e1 e2⟩⟩
  have hrg : ents.toList.map (rg Tryz.prog 2 (plainElem (H := Unit) Tryz.prog 2)) = l.map (fun p => (Lit.int .i64 (p.1 : Int), DataW.lit (.int .i64 (p.2 : Int)))) := by
    have h4 := congrArg (List.map fun q : Value × Value => rg Tryz.prog 2 (plainElem (H := Unit) Tryz.prog 2) ⟨q.1, q.2, 0⟩) h1
    rw [List.map_map, List.map_map] at h4
    refine (Eq.trans (List.map_congr_left fun m hm' => ?_) h4).trans (List.map_congr_left fun p hp => ?_)
    · simp only [Function.comp]; unfold rg WideElems.rd; rfl
    · simp only [Function.comp]; unfold rg; rw [hrd p ⟨encN p.1, encN p.2, 0⟩ hp rfl rfl]; rfl
  have hris := fit_rising (int_keyed Tryz.underlying2) hF
  rw [hrg] at hris
  refine ⟨_, ⟨ents, clk, hb, hF, Nat.le_refl _, rfl⟩, fun y hy => ?_, fun y hy => ?_⟩
  · rw [hrg, has_eq, Bool.eq_iff_iff, List.any_eq_true, decide_eq_true_iff]
    constructor
    · rintro ⟨q, hq, hs⟩
      rw [(WideShapes.sorted_perm _).mem_iff] at hq
      obtain ⟨p, hp, rfl⟩ := List.mem_map.1 hq
      have := WideAt.sameKey_eq hs
      injection this with _ this
      exact List.mem_map.2 ⟨p, hp, this⟩
    · intro hq
      obtain ⟨p, hp, rfl⟩ := List.mem_map.1 hq
      exact ⟨_, (WideShapes.sorted_perm _).mem_iff.2 (List.mem_map.2 ⟨p, hp, rfl⟩), by simp [Lit.sameKey]⟩
  · rw [hrg]
    obtain ⟨a1, a2⟩ := WideShapes.atKey_sorted _ hris (.int .i64 y) trivial
    by_cases hq : y ∈ l.map fun p => (p.1 : Int)
    · rw [if_pos hq]
      obtain ⟨⟨k, v⟩, hp, rfl⟩ := List.mem_map.1 hq
      rw [tdOf_is hn hp]
      exact a2 _ (List.mem_map.2 ⟨(k, v), hp, rfl⟩) rfl _
    · rw [if_neg hq]
      refine a1 (fun q hq' e => hq ?_) _
      obtain ⟨p, hp, rfl⟩ := List.mem_map.1 hq'
      injection e with _ e
      exact List.mem_map.2 ⟨p, hp, e⟩
theorem hook_of : HookAt Tryz.prog 131 hOf := fun args h nx av h' nx' ρ w vs H hv e => by
  unfold hOf at e
  split at e
  · rename_i id o t
    obtain ⟨v1, r1, rfl, ⟨g, t', hg, rfl⟩, v2, r2, rfl, hv2, h0⟩ := hv
    cases (show r2 = [] from h0)
    cases (show v2 = .int .i64 (.ofNat t) from hv2)
    replace ⟨ho, e⟩ := Go.Ev.cut1 e (Go.Ev.noBad _)
    cases Nat.eq_of_beq_eq_true ho
    rcases Go.Ev.bif_some e with ⟨ht, e⟩ | ⟨ht, e⟩
    · cases Nat.eq_of_beq_eq_true ht
      obtain ⟨rfl, rfl, rfl⟩ := Go.Ev.ok3 e
      refine Calls.mono (sof_zero (p := g) (.pointer (some ⟨g, 0, none⟩)) w (.inr rfl)) fun x w' ⟨j1, j2⟩ => ?_
      subst j2
      exact ⟨ρ, _, j1, rfl, H, Go.Ev.Stp.refl _ _ _⟩
    · have ht : (Int.ofNat t) ≠ 0 := fun q => Nat.ne_of_beq_eq_false ht (Int.ofNat.inj q)
      replace ⟨x, e1, e⟩ := Go.Ev.opt4 e Go.Ev.okNe
      obtain ⟨u, k1, k2⟩ := Go.Ev.cellOf_ok H e1 hg
      split at e
      · rename_i m
        obtain ⟨b, tb, hb, rfl⟩ := k2
        replace ⟨q, e2, e⟩ := Go.Ev.opt4 e Go.Ev.okNe
        replace ⟨c1, c2, e⟩ := Go.Ev.cut2 e (Go.Ev.noBad _)
        replace ⟨l, e3, e⟩ := Go.Ev.opt4 e Go.Ev.okNe
        replace ⟨r, e4, e⟩ := Go.Ev.opt4 e Go.Ev.okNe
        obtain ⟨ents, b1, b2⟩ := Go.Ev.mapOf_ok H e2 hb
        obtain ⟨d1, d2⟩ := kvI_ok e3 b2
        obtain ⟨d3, d4⟩ := Go.Ev.sortB_ok (R := (· < ·)) (fun a b h => by simpa using h) (fun a b c h k => Nat.lt_trans h k) e4
        rw [fsts_eq] at d3
        obtain ⟨d5, d6⟩ := Go.Ev.bnOk_ok c1 b2
        have hlen : q.1.length = ents.size := by rw [Go.Ev.ERs_len b2]; simp
        have hsz : ents.size ≤ 1000000 := by rw [← hlen, ← Go.Ev.lenE_eq]; exact Nat.le_of_ble_eq_true c2
        have hnd : (l.map (·.1)).Nodup := (d3.nodup_iff).1 (d4.imp fun {a b} h => Nat.ne_of_lt h)
        have hk : ents.toList.map (·.key) = (l.map (·.1)).map encN := by
          have := congrArg (List.map Prod.fst) d1
          rw [List.map_map, List.map_map] at this
          rw [List.map_map]; exact this
        have hst : MapKept.Stamped ents q.2 := ⟨fun y hy => (d5 y hy).2, d6, by
          rw [hk]; exact List.pairwise_map.2 (hnd.imp fun {a b} h e => h (by unfold encN at e; injection e with _ e; exact Int.ofNat.inj e))⟩
        obtain ⟨D, f1, f2, f3⟩ := ownsK b1 hst hsz d1 d2 hnd
        refine Calls.mono (sof_any w g b ents.size (l.map fun p => (p.1 : Int)) (tdOf l) D k1 (fun y hy => by
          obtain ⟨p, hp, rfl⟩ := List.mem_map.1 hy
          exact WalkArith.wf_i64 (by have := (d2 p hp).1; omega)) f1 f2 f3 (.ofNat t) ht) fun x w' ⟨res, j1, j2, j3⟩ => ?_
        have hg : Gr w w' := ⟨j3.os, j3.tape, j3.output, j3.size, fun k hk => j3.block k hk (fun f => f)⟩
        have hmem : ∀ y, y ∈ (l.map fun p => (p.1 : Int)) → tdOf l y = Int.ofNat t → ∃ k ∈ findV t l, y = (k : Int) := fun y hy e => by
          obtain ⟨⟨k, v⟩, hp, rfl⟩ := List.mem_map.1 hy
          rw [tdOf_is hnd hp] at e
          cases (Int.ofNat.inj e)
          exact ⟨k, findV_mem.2 hp, rfl⟩
        split at e
        · rename_i hf
          obtain ⟨rfl, rfl, rfl⟩ := Go.Ev.ok3 e
          rcases j2 with ⟨_, q1, q2⟩ | ⟨q1, _⟩
          · obtain ⟨k, q3, _⟩ := hmem _ q1 q2
            rw [hf] at q3; cases q3
          · subst q1; exact ⟨ρ, _, j1, rfl, (H.gr hg).1, (H.gr hg).2⟩
        · rename_i k rr hf
          split at e
          · obtain ⟨rfl, rfl, rfl⟩ := Go.Ev.ok3 e
            rcases j2 with ⟨_, q1, q2⟩ | ⟨_, q1 | q1⟩
            · obtain ⟨k', q3, q4⟩ := hmem _ q1 q2
              rw [hf] at q3
              cases List.mem_singleton.1 q3
              exact ⟨ρ, _, j1, by rw [q4]; rfl, (H.gr hg).1, (H.gr hg).2⟩
            · exact absurd q1 ht
            · have hp := findV_mem.1 (show k ∈ findV t l by rw [hf]; simp)
              exact absurd (tdOf_is hnd hp) (q1 _ (List.mem_map.2 ⟨(k, t), hp, rfl⟩))
          · cases e
      · cases e
  · rename_i n
    obtain ⟨v1, r1, rfl, rfl, v2, r2, rfl, hv2, h0⟩ := hv
    cases (show r2 = [] from h0)
    cases (show v2 = .int .i64 n from hv2)
    obtain ⟨rfl, rfl, rfl⟩ := Go.Ev.ok3 e
    refine Calls.mono (sof_nil n w) fun x w' ⟨j1, j2⟩ => ?_
    subst j2
    exact ⟨ρ, _, j1, rfl, H, Go.Ev.Stp.refl _ _ _⟩
  · cases e
end Go.Proofs.YtkjdclpneaepkaaGreat
end

section
open Go Go.Proofs Go.RowKit
open Go.Ev (HookAt hIns hins_at GrowIs RoomIs Gr)
namespace Go.Proofs.YtkjdclpneaepkaaGreat
section
variable {P : Program}
theorem run_copyN (w : World) (dT sT ty elem : TypeId) (size : Nat) (g o dLen dCap : Nat) (a : Addr) (sLen sCap : Nat) (cur : Array Value) (t : TypeId) (cs : List Value)
    (hu : P.underlying dT = some (.slice elem)) (hs : (P.info? elem).map (·.size) = some size)
    (hg : w.heap[g]? = some (.cells cur t (0, 0))) (hn : cs.length = Nat.min sLen dLen * size)
    (hsrc : ∀ j v, cs[j]? = some v → w.cell? (a.add j) = some v) (hfit : o + cs.length ≤ cur.size) (h1 : ∀ v ∈ cs, v.oneCell' = true) :
    (Builtin.copy_ #[dT, sT] ty #[.slice (some ⟨g, o, none⟩) dLen dCap, .slice (some a) sLen sCap]).run P w =
      .ok (goInt (Nat.min sLen dLen)) (w.setRow g (cur.toList.take o ++ cs ++ cur.toList.drop (o + cs.length)).toArray) := by
  have hl := run_loadCells_list (P := P) w a cs hsrc
  have hst := run_storeCells_at P g o t cs 0 cur w hg (by simpa using hfit) h1
  cases hq : P.info? elem with
  | none => simp [hq] at hs
  | some i =>
    have hi : i.size = size := by simpa [hq] using hs
    simp [Builtin.copy_, run_underlying hu, Builtin.lenOf, Builtin.firstCells, sizeOf, typeInfo, hq, hi, ← hn, hl, hst]
/-- A block's cells with 'cs' laid over from o on. -/
def over (L : List Value) (o : Nat) (cs : List Value) : List Value := L.take o ++ cs ++ L.drop (o + cs.length)
theorem over_length {L : List Value} {o : Nat} {cs : List Value} (h : o + cs.length ≤ L.length) : (over L o cs).length = L.length := by simp [over]; omega
theorem setRow_grown (w : World) (g : Nat) (cs : Array Value) : w.grownBy (w.setRow g cs) (some g) := ⟨rfl, rfl, rfl, by simp [World.setRow], fun k _ hne => setRow_other w g k cs (fun e => hne (by rw [e]))⟩
theorem wp_copyN {o : Oper} {a : Act} {K : Act → World → Prop} {Q : Exit → Act → World → Prop} {w : World} (d s : Operand) (dT sT elem : TypeId) (size : Nat)
    (ho : o.op = .call { callee := .builtin .copy, args := #[d, s], argTypes := #[dT, sT] }) (hu : P.underlying dT = some (.slice elem)) (hs : (P.info? elem).map (·.size) = some size)
    (g off dLen dCap : Nat) (ad : Addr) (sLen sCap : Nat) (hd : a.eval d = .slice (some ⟨g, off, none⟩) dLen dCap) (hsv : a.eval s = .slice (some ad) sLen sCap)
    (cur : List Value) (t : TypeId) (hg : w.heap[g]? = some (.cells cur.toArray t (0, 0))) (cs : List Value) (hn : cs.length = Nat.min sLen dLen * size)
    (hsrc : ∀ j v, cs[j]? = some v → w.cell? (ad.add j) = some v) (hfit : off + cs.length ≤ cur.length) (h1 : ∀ v ∈ cs, v.oneCell' = true)
    (h : ∀ w' q, w'.heap[g]? = some (.cells (over cur off cs).toArray t (0, 0)) → w.grownBy w' (some g) → K (a.put o.dst q) w') : o.wp P a w K Q := by
  have hr := run_copyN (P := P) w dT sT o.type elem size g off dLen dCap ad sLen sCap cur.toArray t cs hu hs hg hn hsrc (by simpa using hfit) h1
  unfold Oper.wp execOp
  simp only [ho, resolve, invoke, builtin, Sem.run_bind, Sem.run_pure, Result.andThen_ok, List.map_toArray, List.map_cons, List.map_nil, hd, hsv, hr]
  exact h _ _ (setRow_heap w g _ _ t _ hg) (setRow_grown w g _)
theorem wpList_copyN {ops : Array Oper} {rest : List Oper} {o : Oper} {a : Act} {Q : Exit → Act → World → Prop} {w : World} (d s : Operand) (dT sT elem : TypeId) (size : Nat) (hgd : o.guard = none)
    (ho : o.op = .call { callee := .builtin .copy, args := #[d, s], argTypes := #[dT, sT] }) (hu : P.underlying dT = some (.slice elem)) (hs : (P.info? elem).map (·.size) = some size)
    (g off dLen dCap : Nat) (ad : Addr) (sLen sCap : Nat) (hd : a.eval d = .slice (some ⟨g, off, none⟩) dLen dCap) (hsv : a.eval s = .slice (some ad) sLen sCap)
    (cur : List Value) (t : TypeId) (hg : w.heap[g]? = some (.cells cur.toArray t (0, 0))) (cs : List Value) (hn : cs.length = Nat.min sLen dLen * size)
    (hsrc : ∀ j v, cs[j]? = some v → w.cell? (ad.add j) = some v) (hfit : off + cs.length ≤ cur.length) (h1 : ∀ v ∈ cs, v.oneCell' = true)
    (h : ∀ w' q, w'.heap[g]? = some (.cells (over cur off cs).toArray t (0, 0)) → w.grownBy w' (some g) → wpList P ops Q rest (a.put o.dst q) w') : wpList P ops Q (o :: rest) a w :=
  wpList_plain hgd fun _ hK => wp_copyN d s dT sT elem size ho hu hs g off dLen dCap ad sLen sCap hd hsv cur t hg cs hn hsrc hfit h1 fun w' q h2 h3 => hK _ _ (h w' q h2 h3)
theorem step_copyN {ops : Array Oper} {o : Oper} {a : Act} {K : Act → World → Prop} {Q : Exit → Act → World → Prop} {E : Prop} {w : World} (d s : Operand) (dT sT elem : TypeId) (size : Nat) (hgd : o.guard = none)
    (ho : o.op = .call { callee := .builtin .copy, args := #[d, s], argTypes := #[dT, sT] }) (hu : P.underlying dT = some (.slice elem)) (hs : (P.info? elem).map (·.size) = some size)
    (g off dLen dCap : Nat) (ad : Addr) (sLen sCap : Nat) (hd : a.eval d = .slice (some ⟨g, off, none⟩) dLen dCap) (hsv : a.eval s = .slice (some ad) sLen sCap)
    (cur : List Value) (t : TypeId) (hg : w.heap[g]? = some (.cells cur.toArray t (0, 0))) (cs : List Value) (hn : cs.length = Nat.min sLen dLen * size)
    (hsrc : ∀ j v, cs[j]? = some v → w.cell? (ad.add j) = some v) (hfit : off + cs.length ≤ cur.length) (h1 : ∀ v ∈ cs, v.oneCell' = true)
    (h : ∀ w' q, w'.heap[g]? = some (.cells (over cur off cs).toArray t (0, 0)) → w.grownBy w' (some g) → K (a.put o.dst q) w') :
    if Region.wanted o (yielded ops a.tmps) = true then Oper.wp P o a w K Q else E := by
  have hw : Region.wanted o (yielded ops a.tmps) = true := by simp [Region.wanted, hgd]
  rw [if_pos hw]
  exact wp_copyN d s dT sT elem size ho hu hs g off dLen dCap ad sLen sCap hd hsv cur t hg cs hn hsrc hfit h1 h
/-- append(s[:i], make(S, k)...), which does not fit. -/
theorem wpList_appz {ops : Array Oper} {rest : List Oper} {o : Oper} {a : Act} {Q : Exit → Act → World → Prop} {w : World} (t tn e : TypeId) (z : Value) (size bytes : Nat) (hgd : o.guard = none)
    (ht : P.underlying t = some (.slice e)) (htn : P.underlying tn = some (.int .i64)) (hinfo : (P.info? e).map (fun i => (i.zero, i.size, i.bytes)) = some (some z, size, bytes)) (hzs : z.cells.size = size) (hsz : 0 < size)
    {s x : Operand} (ho : o.op = .call { callee := .builtin .append, args := #[s, x], argTypes := #[t, tn] })
    {ao : Option Addr} {n c : Nat} {k : Nat} (hv : a.eval s = .slice ao n c) (hx : a.eval x = .int .i64 (k : Int)) {xs : List Value} (hxl : xs.length = n * size) (hold : ∀ W : World, W.heap = w.heap → (Builtin.firstCells size n (.slice ao n c)).run P W = .ok xs.toArray W) (hk : 0 < k) (hc : c < n + k)
    (hbytes : (n + k) * bytes ≤ 140737488355328) (hk2 : n + k ≤ 1000000000) (m : Nat) (hm : n + k = m) (g2 : Nat) (hg2 : w.heap.size = g2)
    (h : ∀ w' cp cur, w'.heap[g2]? = some (.cells cur e (0, 0)) → m ≤ cp → cp ≤ maxLen → cur.size = cp * size → cur.toList.take (n * size) = xs → w.grownBy w' none → wpList P ops Q rest (a.put o.dst (.slice (some ⟨g2, 0, none⟩) m cp)) w') : wpList P ops Q (o :: rest) a w := by
  subst hm
  subst hg2
  refine wpList_plain hgd fun _ hK => ?_
  obtain ⟨i, hi, hz, hsize, hby⟩ := info_parts hinfo
  subst hsize
  subst hby
  have hr := Lib.run_append_grow_zeros (P := P) w t tn o.type e i z .i64 .i64 ht htn hi hz ao n c xs (hold w.drew rfl) k hk hsz hc (by omega) (by have : k * i.bytes ≤ (n + k) * i.bytes := Nat.mul_le_mul_right _ (by omega); omega) (growslice_fits (by omega) hbytes)
  unfold Oper.wp execOp
  simp only [ho, resolve, invoke, builtin, Sem.run_bind, Sem.run_pure, Result.andThen_ok, List.map_toArray, List.map_cons, List.map_nil, hv, hx, hr]
  have hge := grownCap_ge w (n + k) c e
  refine hK _ _ (h _ _ _ (heap_alloc_new w.drew _) hge (grownCap_le_maxLen w (n + k) c e (by unfold maxLen; omega)) ?_ ?_ ⟨rfl, rfl, rfl, by simp, fun j hj _ => heap_alloc_old w.drew _ hj⟩)
  · simp only [Array.size_append, List.size_toArray, size_zeroCells, hzs, hxl, ← Nat.add_mul]
    congr 1
    omega
  · simp only [Array.toList_append, List.append_assoc]
    rw [← hxl]
    exact List.take_left
/-- An append that is known. -/
theorem wpList_appR {ops : Array Oper} {rest : List Oper} {o : Oper} {a : Act} {Q : Exit → Act → World → Prop} {w w1 : World} {sv xv r : Value} {s x : Operand} (t tx : TypeId) (hgd : o.guard = none)
    (ho : o.op = .call { callee := .builtin .append, args := #[s, x], argTypes := #[t, tx] }) (hv : a.eval s = sv) (hx : a.eval x = xv)
    (hr : (Builtin.append_ #[t, tx] o.type #[sv, xv]).run P w = .ok r w1) (h : wpList P ops Q rest (a.put o.dst r) w1) : wpList P ops Q (o :: rest) a w := by
  refine wpList_plain hgd fun _ hK => ?_
  unfold Oper.wp execOp
  simp only [ho, resolve, invoke, builtin, Sem.run_bind, Sem.run_pure, Result.andThen_ok, List.map_toArray, List.map_cons, List.map_nil, hv, hx, hr]
  exact hK _ _ h
theorem addr_at (g o j : Nat) : (Addr.mk g o none).add j = ⟨g, o + j, none⟩ := by
  by_cases h0 : j = 0 <;> simp [Addr.add, h0]
theorem src2_cell {w : World} {q : Nat} {cq : Array Value} {y1 y2 : Value} {T : TypeId} {fz : Nat × Nat} (hq : w.heap[q]? = some (.cells cq T fz)) (h1 : cq[0]? = some y1) (h2 : cq[1]? = some y2) : ∀ j v, [y1, y2][j]? = some v → w.cell? ((Addr.mk q 0 none).add j) = some v := by
  intro j u hu
  rw [addr_at, cell_of_heap hq, Nat.zero_add]
  rcases j with _ | _ | j
  · simp at hu; subst hu; exact h1
  · simp at hu; subst hu; exact h2
  · simp at hu
theorem src_drop {w : World} {g0 n i : Nat} {c0 : Array Value} {T0 : TypeId} {f0 : Nat × Nat} {xs : List Value} (h : w.heap[g0]? = some (.cells c0 T0 f0)) (hxs : c0.toList.take (n * 2) = xs) : ∀ j v, (xs.drop (i * 2))[j]? = some v → w.cell? ((Addr.mk g0 (i * 2) none).add j) = some v := fun j v hv => by
  rw [List.getElem?_drop, ← hxs, List.getElem?_take] at hv
  rw [addr_at, cell_of_heap h]
  split at hv
  · simpa using hv
  · cases hv
theorem ins_cells1 {xs cur : List Value} {n i : Nat} {y1 y2 : Value} (hl : xs.length = n * 2) (hi : i ≤ n) (htk : cur.take (i * 2) = xs.take (i * 2)) :
    (over (over cur (i * 2) [y1, y2]) ((i + 1) * 2) (xs.drop (i * 2))).take ((n + 1) * 2) = xs.take (i * 2) ++ [y1, y2] ++ xs.drop (i * 2) := by
  have e1 : (over cur (i * 2) [y1, y2]).take ((i + 1) * 2) = xs.take (i * 2) ++ [y1, y2] := by
    unfold over
    rw [htk]
    exact List.take_left' (by simp [hl]; omega)
  rw [over, e1]
  exact List.take_left' (by simp [hl]; omega)
theorem ins_cells2 {xs cur : List Value} {n i cp : Nat} {y1 y2 : Value} (hl : xs.length = n * 2) (hc : cp * 2 ≤ cur.length) (hcp : n + 1 ≤ cp) (hi : i ≤ n) (htk : cur.take (n * 2) = xs) :
    (over (over cur ((i + 1) * 2) (xs.drop (i * 2))) (i * 2) [y1, y2]).take ((n + 1) * 2) = xs.take (i * 2) ++ [y1, y2] ++ xs.drop (i * 2) := by
  have e0 : (over cur ((i + 1) * 2) (xs.drop (i * 2))).take (i * 2) = xs.take (i * 2) := by
    unfold over
    rw [List.append_assoc, List.take_append_of_le_length (by simp; omega), List.take_take, Nat.min_eq_left (by omega), ← htk, List.take_take, Nat.min_eq_left (by omega)]
  have e1 : (over cur ((i + 1) * 2) (xs.drop (i * 2))).drop (i * 2 + [y1, y2].length) = xs.drop (i * 2) ++ cur.drop ((i + 1) * 2 + (xs.drop (i * 2)).length) := by
    unfold over
    rw [List.append_assoc]
    exact List.drop_left' (by simp; omega)
  rw [over, e0, e1]
  rw [← List.append_assoc]
  exact List.take_left' (by simp [hl]; omega)
theorem Keep.gr {w w' : World} (k : Keep NoF w w') : Gr w w' := ⟨k.os, k.tape, k.output, k.size, fun g hg => k.block g hg (fun f => f)⟩
end
theorem infoBS : (Tryz.prog.info? 242).map (fun i => (i.zero, i.size, i.bytes)) = some (some (.agg #[.string ByteArray.empty, .int .i64 0]), 2, 24) := by kernel_rfl
theorem sizeBS : (Tryz.prog.info? 242).map (·.size) = some 2 := by kernel_rfl
set_option maxHeartbeats 4000000 in
set_option maxRecDepth 8000 in
theorem insS_end (ao : Option Addr) (n cp q : Nat) (r : Value) (w w1 : World) (hr : (Builtin.append_ #[190, 190] 190 #[.slice ao n cp, .slice (some ⟨q, 0, none⟩) 1 1]).run Tryz.prog w = .ok r w1) (hn : n ≤ 1000000) :
    Calls Tryz.prog 153 #[.slice ao n cp, .int .i64 n, .slice (some ⟨q, 0, none⟩) 1 1] w fun x w' => x = .returned r ∧ w' = w1 := by
  have HR := Lib.hid hr
  clear hr
  go_enter Tryz.func153, Tryz.ntmps153
  go_wp2_with (at_builtin; refine wpList_appR 190 190 rfl rfl rfl rfl HR.out ?_)
  all_goals
    go_wp2_with fail
    go_ret
    exact ⟨rfl, rfl⟩
set_option maxHeartbeats 4000000 in
set_option maxRecDepth 4000 in
theorem insS_grow (g0 n i q : Nat) (c0 cq : Array Value) (T0 Tq : TypeId) (f0 fq : Nat × Nat) (xs : List Value) (y1 y2 : Value) (w : World) (hg0 : w.heap[g0]? = some (.cells c0 T0 f0)) (hc0 : n * 2 ≤ c0.size) (hxs : c0.toList.take (n * 2) = xs) (hx : ∀ u ∈ xs, u.oneCell' = true) (hy : y1.oneCell' = true ∧ y2.oneCell' = true)
    (hq : w.heap[q]? = some (.cells cq Tq fq)) (hq1 : cq[0]? = some y1) (hq0 : cq[1]? = some y2) (hn : n ≤ 1000000) (hi : i < n) :
    Calls Tryz.prog 153 #[.slice (some ⟨g0, 0, none⟩) n n, .int .i64 i, .slice (some ⟨q, 0, none⟩) 1 1] w (GrowIs 242 w n (xs.take (i * 2) ++ [y1, y2] ++ xs.drop (i * 2))) := by
  have hxl : xs.length = n * 2 := by rw [← hxs, List.length_take, Array.length_toList]; omega
  have HXL := Lib.hid hxl; have HXS := Lib.hid hxs; have HG0 := Lib.hid hg0; have HQ := Lib.hid hq; have HY := Lib.hid hy; have HQA := Lib.hid hq1; have HQB := Lib.hid hq0
  have HXD : Hid (∀ v ∈ xs.drop (i * 2), v.oneCell' = true) := Lib.hid fun v hv => hx v (List.mem_of_mem_drop hv)
  have HP := Lib.hid (Go.Ev.firstOld (P := Tryz.prog) (es := 2) (len := i) (cap := n) hg0 (by omega))
  have HPL : Hid ((xs.take (i * 2)).length = i * 2) := Lib.hid (by rw [List.length_take, hxl]; omega)
  have HPT : Hid (c0.toList.take (i * 2) = xs.take (i * 2)) := Lib.hid (by rw [← hxs, List.take_take, Nat.min_eq_left (by omega)])
  have HP2 : Hid (∀ W : World, W.heap = w.heap → (Builtin.firstCells 2 i (.slice (some ⟨g0, 0, none⟩) i n)).run Tryz.prog W = .ok (xs.take (i * 2)).toArray W) := Lib.hid fun W hW => by rw [← HPT.out]; exact HP.out W hW
  have hq2 := lt_of_heap hq
  have hg2' := lt_of_heap hg0
  clear hg0 hxs hq hy hx hq1 hq0 hxl hc0 HP
  have hne : ((i : Int) == n) = false := by simp; omega
  have hgt : (n : Int) < n + 1 := by omega
  obtain ⟨k, hk⟩ : ∃ k : Nat, (n : Int) + 1 - i = k := ⟨n + 1 - i, by omega⟩
  have hki : i + k = n + 1 := by omega
  obtain ⟨g2, hg2⟩ : ∃ g2, w.heap.size = g2 := ⟨_, rfl⟩
  go_enter Tryz.func153, Tryz.ntmps153
  go_wp2_with (at_builtin; refine wpList_appz 190 3 242 (.agg #[.string ByteArray.empty, .int .i64 0]) 2 24 rfl Tryz.underlying190 Tryz.underlying3 infoBS rfl (by decide) rfl (k := k) rfl rfl HPL.out HP2.out (by omega) (by omega) (by omega) (by omega) (n + 1) hki g2 hg2 ?_)
  intro w1 c1 cur1 hg1 hc1 hc1m hcs1 htk1 hgr1
  have HG1 : Hid (w1.heap[g2]? = some (.cells cur1.toList.toArray 242 (0, 0))) := Lib.hid (by simpa using hg1)
  have HTK1 := Lib.hid htk1; have HGR1 := Lib.hid hgr1
  have HQ1 : Hid (w1.heap[q]? = some (.cells cq Tq fq)) := Lib.hid (by rw [hgr1.block q hq2 (by simp)]; exact HQ.out)
  have hcl : cur1.toList.length = c1 * 2 := by simpa using hcs1
  clear hg1 htk1 hgr1 hcs1 hc1m
  have hm1 : [y1, y2].length = Nat.min 1 (n + 1 - i) * 2 := by
    rw [show Nat.min 1 (n + 1 - i) = 1 from Nat.min_eq_left (by omega)]; rfl
  have hm2 : i * 2 + [y1, y2].length ≤ cur1.toList.length := by rw [hcl]; simp; omega
  have HM1 := Lib.hid hm1; have HM2 := Lib.hid hm2; have HSC := Lib.hid (src2_cell HQ1.out HQA.out HQB.out)
  have HONE : Hid (∀ v ∈ [y1, y2], v.oneCell' = true) := Lib.hid (by simp [HY.out.1, HY.out.2])
  clear hm1 hm2
  have hw : IntKind.i64.wrap ((i : Int) + 1) = (i : Int) + 1 := by rw [IntKind.wrap_i64]; omega
  have hw2 : ((i : Int) + 1).toNat = i + 1 := by omega
  have hw3 : 0 ≤ (i : Int) + 1 := by omega
  have hw4 : (i : Int) + 1 ≤ (n : Int) + 1 := by omega
  have hw6 : (i : Int) ≤ n := by omega
  have hw5 : ¬ c1 = i + 1 := by omega
  have hw7 : ¬ n = i := by omega
  go_wp2_with (refine wpList_copyN (.tmp 43) (.tmp 44) 190 190 242 2 ?_ ?_ Tryz.underlying190 sizeBS g2 (i * 2) (n + 1 - i) (c1 - i) ⟨q, 0, none⟩ 1 1 ?_ ?_ cur1.toList 242 HG1.out [y1, y2] HM1.out HSC.out HM2.out HONE.out ?_; rfl; rfl; rfl; rfl)
  intro w2 q2 hg3' hgr2
  have HG2 := Lib.hid hg3'; have HGR2 := Lib.hid hgr2
  have HG2D : Hid (w2.drew.heap[g2]? = some (.cells (over cur1.toList (i * 2) [y1, y2]).toArray 242 (0, 0))) := Lib.hid hg3'
  have HSRC : Hid (∀ j v, (xs.drop (i * 2))[j]? = some v → w2.drew.cell? ((Addr.mk g0 (i * 2) none).add j) = some v) := Lib.hid (src_drop (n := n) (c0 := c0) (T0 := T0) (f0 := f0) (by
    show w2.heap[g0]? = _
    rw [hgr2.block g0 (Nat.lt_of_lt_of_le hg2' HGR1.out.size) (by rw [← hg2]; simp; omega), HGR1.out.block g0 hg2' (by simp)]
    exact HG0.out) HXS.out)
  have HMN : Hid ((xs.drop (i * 2)).length = Nat.min (n - i) (n - i) * 2) := Lib.hid (by
    rw [List.length_drop, HXL.out, show Nat.min (n - i) (n - i) = n - i from Nat.min_self _]; omega)
  have HFT : Hid ((i + 1) * 2 + (xs.drop (i * 2)).length ≤ (over cur1.toList (i * 2) [y1, y2]).length) := Lib.hid (by
    rw [over_length (by rw [hcl]; simp; omega), hcl, List.length_drop, HXL.out]; omega)
  clear hg3' hgr2
  go_upto_region 11 with fail
  refine wp_region_noPanic ?_
  refine wp_region_held_drew (S := fun _ => True) (by kernel_rfl) (trivial) (fun hHeld => ?_)
  refine wpAnyH_take (i := 0) (oi := ?oG0) (v := ?vG0) ?hiG0 (by kernel_rfl) (by kernel_rfl) (by kernel_rfl) (fun _ _ _ h => h) (Or.inl ⟨?wG0, ?yG0⟩) (by assumption) ?rG0
  case hiG0 => (simp only [List.getElem?_toArray, List.getElem?_cons_zero]; try rfl)
  case wG0 => rfl
  case yG0 => (intro w hSw; (try dsimp only at hSw); go_simp; (try with_reducible rfl))
  (try simp only [Act.put, List.setIfInBounds_toArray, List.set_cons_zero, List.set_cons_succ])
  refine wpAnyH_take (i := 1) (oi := ?oG1) (v := ?vG1) ?hiG1 (by kernel_rfl) (by kernel_rfl) (by kernel_rfl) (fun _ _ _ h => h) (Or.inl ⟨?wG1, ?yG1⟩) (by assumption) ?rG1
  case hiG1 => (simp only [List.getElem?_toArray, List.getElem?_cons_succ, List.getElem?_cons_zero]; try rfl)
  case wG1 => rfl
  case yG1 => (intro w hSw; (try dsimp only at hSw); go_simp; (try with_reducible rfl))
  (try simp only [Act.put, List.setIfInBounds_toArray, List.set_cons_zero, List.set_cons_succ])
  refine wpAnyH_take (i := 2) (oi := ?oG2) (v := ?vG2) ?hiG2 (by kernel_rfl) (by kernel_rfl) (by kernel_rfl) (fun _ _ _ h => h) (Or.inl ⟨?wG2, ?yG2⟩) (by assumption) ?rG2
  case hiG2 => (simp only [List.getElem?_toArray, List.getElem?_cons_succ, List.getElem?_cons_zero]; try rfl)
  case wG2 => rfl
  case yG2 => (intro w hSw; (try dsimp only at hSw); go_simp; (try with_reducible rfl))
  (try simp only [Act.put, List.setIfInBounds_toArray, List.set_cons_zero, List.set_cons_succ])
  refine wpAnyH_take (i := 3) (oi := ?oG3) (v := ?vG3) ?hiG3 (by kernel_rfl) (by kernel_rfl) (by kernel_rfl) (fun _ _ _ h => h) (Or.inl ⟨?wG3, ?yG3⟩) (by assumption) ?rG3
  case hiG3 => (simp only [List.getElem?_toArray, List.getElem?_cons_succ, List.getElem?_cons_zero]; try rfl)
  case wG3 => rfl
  case yG3 => (intro w hSw; (try dsimp only at hSw); go_simp; (try with_reducible rfl))
  (try simp only [Act.put, List.setIfInBounds_toArray, List.set_cons_zero, List.set_cons_succ])
  refine wpAnyH_take (i := 4) (oi := ?oG4) (v := ?vG4) ?hiG4 (by kernel_rfl) (by kernel_rfl) (by kernel_rfl) (fun _ _ _ h => h) (Or.inl ⟨?wG4, ?yG4⟩) (by assumption) ?rG4
  case hiG4 => (simp only [List.getElem?_toArray, List.getElem?_cons_succ, List.getElem?_cons_zero]; try rfl)
  case wG4 => rfl
  case yG4 => (intro w hSw; (try dsimp only at hSw); go_simp; (try with_reducible rfl))
  (try simp only [Act.put, List.setIfInBounds_toArray, List.set_cons_zero, List.set_cons_succ])
  refine wpAnyH_take (i := 5) (oi := ?oG5) (v := ?vG5) ?hiG5 (by kernel_rfl) (by kernel_rfl) (by kernel_rfl) (fun _ _ _ h => h) (Or.inl ⟨?wG5, ?yG5⟩) (by assumption) ?rG5
  case hiG5 => (simp only [List.getElem?_toArray, List.getElem?_cons_succ, List.getElem?_cons_zero]; try rfl)
  case wG5 => rfl
  case yG5 => (intro w hSw; (try dsimp only at hSw); go_simp; (try with_reducible rfl))
  (try simp only [Act.put, List.setIfInBounds_toArray, List.set_cons_zero, List.set_cons_succ])
  refine wpAnyH_take (i := 6) (oi := ?oG6) (v := ?vG6) ?hiG6 (by kernel_rfl) (by kernel_rfl) (by kernel_rfl) (fun _ _ _ h => h) (Or.inl ⟨?wG6, ?yG6⟩) (by assumption) ?rG6
  case hiG6 => (simp only [List.getElem?_toArray, List.getElem?_cons_succ, List.getElem?_cons_zero]; try rfl)
  case wG6 => rfl
  case yG6 => (intro w hSw; (try dsimp only at hSw); go_simp; (try with_reducible rfl))
  (try simp only [Act.put, List.setIfInBounds_toArray, List.set_cons_zero, List.set_cons_succ])
  refine wpAnyH_take (i := 7) (oi := ?oG7) (v := ?vG7) ?hiG7 (by kernel_rfl) (by kernel_rfl) (by kernel_rfl) (fun _ _ _ h => h) (Or.inl ⟨?wG7, ?yG7⟩) (by assumption) ?rG7
  case hiG7 => (simp only [List.getElem?_toArray, List.getElem?_cons_succ, List.getElem?_cons_zero]; try rfl)
  case wG7 => rfl
  case yG7 => (intro w hSw; (try dsimp only at hSw); go_simp; (try with_reducible rfl))
  (try simp only [Act.put, List.setIfInBounds_toArray, List.set_cons_zero, List.set_cons_succ])
  refine wpAnyH_ready (rs := [8]) (by kernel_rfl) (by simp) ?_
  refine AllReadyH.cons (o := ?oG8) ?hiG8 (fun K hK => ?_) AllReadyH.nil
  case hiG8 => (simp only [List.getElem?_toArray, List.getElem?_cons_succ, List.getElem?_cons_zero]; try rfl)
  refine step_copyN _ _ 190 190 242 2 rfl rfl Tryz.underlying190 sizeBS g2 ((i + 1) * 2) (n - i) (c1 - (i + 1)) ⟨g0, i * 2, none⟩ (n - i) (n - i) rfl rfl (over cur1.toList (i * 2) [y1, y2]) 242 HG2D.out (xs.drop (i * 2)) HMN.out HSRC.out HFT.out HXD.out ?_
  intro w3 q3 hg3 hgr3
  refine hK.out _ _ (trivial) (fun hHeld => ?_)
  clear hK K
  (try simp only [Act.put, List.setIfInBounds_toArray, List.set_cons_zero, List.set_cons_succ])
  refine wpAnyH_done (by kernel_rfl) ?_ _
  refine NoPanic.normal ?_
  have HG3 := Lib.hid hg3; have HGR3 := Lib.hid hgr3
  clear hg3 hgr3
  go_wp2_with fail
  go_ret
  refine ⟨c1, _, (by rw [hg2]; rfl), by rw [hg2]; exact HG3.out, hc1, ?_, ?_, Keep.gr ?_⟩
  · rw [List.size_toArray, over_length HFT.out, over_length HM2.out, hcl]
  · exact ins_cells1 HXL.out (by omega) HTK1.out
  · have k1 : Keep NoF w w1 := (Keep.refl NoF w).grown HGR1.out (fun k _ e => by cases e)
    have k2 : Keep NoF w w2.drew := (k1.grown HGR2.out (fun k hk e => by injection e with e; omega)).drew
    exact k2.grown HGR3.out (fun k hk e => by injection e with e; omega)
set_option maxHeartbeats 4000000 in
set_option maxRecDepth 4000 in
theorem insS_room (g0 n cp i q : Nat) (c0 cq : Array Value) (T0 Tq : TypeId) (xs : List Value) (y1 y2 : Value) (w : World) (hg0 : w.heap[g0]? = some (.cells c0 T0 (0, 0))) (hcs : cp * 2 ≤ c0.size) (htk : c0.toList.take (n * 2) = xs) (hx : ∀ u ∈ xs, u.oneCell' = true) (hy : y1.oneCell' = true ∧ y2.oneCell' = true)
    (hq : w.heap[q]? = some (.cells cq Tq (0, 0))) (hq1 : cq[0]? = some y1) (hq2 : cq[1]? = some y2) (hqg : q ≠ g0) (hn : n ≤ 1000000) (hi : i < n) (hcp : n + 1 ≤ cp) :
    Calls Tryz.prog 153 #[.slice (some ⟨g0, 0, none⟩) n cp, .int .i64 i, .slice (some ⟨q, 0, none⟩) 1 1] w (RoomIs T0 w g0 n cp c0.size (xs.take (i * 2) ++ [y1, y2] ++ xs.drop (i * 2))) := by
  have hxl : xs.length = n * 2 := by rw [← htk, List.length_take, Array.length_toList]; omega
  have hcl : cp * 2 ≤ c0.toList.length := by simpa using hcs
  have HXL := Lib.hid hxl
  have HQ := Lib.hid hq; have HY := Lib.hid hy; have HTK := Lib.hid htk; have HQA := Lib.hid hq1; have HQB := Lib.hid hq2
  have HXD : Hid (∀ v ∈ xs.drop (i * 2), v.oneCell' = true) := Lib.hid fun v hv => hx v (List.mem_of_mem_drop hv)
  have HG0D : Hid (w.drew.heap[g0]? = some (.cells c0.toList.toArray T0 (0, 0))) := Lib.hid (show w.heap[g0]? = _ by simpa using hg0)
  have HSRC : Hid (∀ j v, (xs.drop (i * 2))[j]? = some v → w.drew.cell? ((Addr.mk g0 (i * 2) none).add j) = some v) := Lib.hid (src_drop (w := w.drew) (n := n) hg0 htk)
  have HMN : Hid ((xs.drop (i * 2)).length = Nat.min (n + 1 - i) (n - i) * 2) := Lib.hid (by
    rw [List.length_drop, HXL.out, show Nat.min (n + 1 - i) (n - i) = n - i from Nat.min_eq_right (by omega)]; omega)
  have HFT : Hid ((i + 1) * 2 + (xs.drop (i * 2)).length ≤ c0.toList.length) := Lib.hid (by
    rw [List.length_drop, HXL.out]; omega)
  have HCL := Lib.hid hcl
  have HSZ : Hid (c0.toList.length = c0.size) := Lib.hid (by simp)
  have hne : ((i : Int) == n) = false := by simp; omega
  have hgt : ¬ ((cp : Int) < n + 1) := by omega
  have hc9 : ¬ cp = i + 1 := by omega
  have hc8 : ¬ cp = i := by omega
  have hov : ∀ lb cb, (callFunc 239 #[.slice (some ⟨q, 0, none⟩) 1 1, .slice (some ⟨g0, (i + 1) * 2, none⟩) lb cb]).run Tryz.prog w = .ok (.value (.bool false)) w := fun lb cb => by
    rw [run_callFunc_extern Tryz.func239 (by kernel_rfl) (by kernel_rfl) (by kernel_rfl) (e := Extern.SlicesOverlaps.overlaps #[190, 190] #[4]) (by kernel_rfl),
      Lib.run_overlaps_apart w 190 4 242 Tryz.underlying190 2 Tryz.sizeOf242 ⟨q, 0, none⟩ ⟨g0, (i + 1) * 2, none⟩ 1 1 lb cb hqg Tq T0 cq.size c0.size (by simp [World.shape?, hq]) (by simp [World.shape?, hg0]) (by omega) (free_of_heap hq 0) (free_of_heap hq cq.size)]
    rfl
  clear hx hy hq hg0 htk hcs hq1 hq2 hxl hcl
  have hw : IntKind.i64.wrap ((i : Int) + 1) = (i : Int) + 1 := by rw [IntKind.wrap_i64]; omega
  have hw2 : ((i : Int) + 1).toNat = i + 1 := by omega
  have hw3 : 0 ≤ (i : Int) + 1 := by omega
  have hw4 : (i : Int) + 1 ≤ (n : Int) + 1 := by omega
  have hw6 : (i : Int) ≤ (n : Int) + 1 := by omega
  go_enter Tryz.func153, Tryz.ntmps153
  go_upto_region 15 with fail
  refine wp_region_noPanic ?_
  refine wp_region_held_drew (S := fun _ => True) (by kernel_rfl) (trivial) (fun hHeld => ?_)
  refine wpAnyH_take (i := 0) (oi := ?oH0) (v := ?vH0) ?hiH0 (by kernel_rfl) (by kernel_rfl) (by kernel_rfl) (fun _ _ _ h => h) (Or.inl ⟨?wH0, ?yH0⟩) (by assumption) ?rH0
  case hiH0 => (simp only [List.getElem?_toArray, List.getElem?_cons_zero]; try rfl)
  case wH0 => rfl
  case yH0 => (intro w hSw; (try dsimp only at hSw); go_simp; (try with_reducible rfl))
  (try simp only [Act.put, List.setIfInBounds_toArray, List.set_cons_zero, List.set_cons_succ])
  refine wpAnyH_take (i := 1) (oi := ?oH1) (v := ?vH1) ?hiH1 (by kernel_rfl) (by kernel_rfl) (by kernel_rfl) (fun _ _ _ h => h) (Or.inl ⟨?wH1, ?yH1⟩) (by assumption) ?rH1
  case hiH1 => (simp only [List.getElem?_toArray, List.getElem?_cons_succ, List.getElem?_cons_zero]; try rfl)
  case wH1 => rfl
  case yH1 => (intro w hSw; (try dsimp only at hSw); go_simp; (try with_reducible rfl))
  (try simp only [Act.put, List.setIfInBounds_toArray, List.set_cons_zero, List.set_cons_succ])
  refine wpAnyH_take (i := 2) (oi := ?oH2) (v := ?vH2) ?hiH2 (by kernel_rfl) (by kernel_rfl) (by kernel_rfl) (fun _ _ _ h => h) (Or.inl ⟨?wH2, ?yH2⟩) (by assumption) ?rH2
  case hiH2 => (simp only [List.getElem?_toArray, List.getElem?_cons_succ, List.getElem?_cons_zero]; try rfl)
  case wH2 => rfl
  case yH2 => (intro w hSw; (try dsimp only at hSw); go_simp; (try with_reducible rfl))
  (try simp only [Act.put, List.setIfInBounds_toArray, List.set_cons_zero, List.set_cons_succ])
  refine wpAnyH_take (i := 3) (oi := ?oH3) (v := ?vH3) ?hiH3 (by kernel_rfl) (by kernel_rfl) (by kernel_rfl) (fun _ _ _ h => h) (Or.inl ⟨?wH3, ?yH3⟩) (by assumption) ?rH3
  case hiH3 => (simp only [List.getElem?_toArray, List.getElem?_cons_succ, List.getElem?_cons_zero]; try rfl)
  case wH3 => rfl
  case yH3 => (intro w hSw; (try dsimp only at hSw); go_simp; (try with_reducible rfl))
  (try simp only [Act.put, List.setIfInBounds_toArray, List.set_cons_zero, List.set_cons_succ])
  refine wpAnyH_take (i := 4) (oi := ?oH4) (v := ?vH4) ?hiH4 (by kernel_rfl) (by kernel_rfl) (by kernel_rfl) (fun _ _ _ h => h) (Or.inl ⟨?wH4, ?yH4⟩) (by assumption) ?rH4
  case hiH4 => (simp only [List.getElem?_toArray, List.getElem?_cons_succ, List.getElem?_cons_zero]; try rfl)
  case wH4 => rfl
  case yH4 => (intro w hSw; (try dsimp only at hSw); go_simp; (try with_reducible rfl))
  (try simp only [Act.put, List.setIfInBounds_toArray, List.set_cons_zero, List.set_cons_succ])
  refine wpAnyH_take (i := 5) (oi := ?oH5) (v := ?vH5) ?hiH5 (by kernel_rfl) (by kernel_rfl) (by kernel_rfl) (fun _ _ _ h => h) (Or.inl ⟨?wH5, ?yH5⟩) (by assumption) ?rH5
  case hiH5 => (simp only [List.getElem?_toArray, List.getElem?_cons_succ, List.getElem?_cons_zero]; try rfl)
  case wH5 => rfl
  case yH5 => (intro w hSw; (try dsimp only at hSw); go_simp; (try with_reducible rfl))
  (try simp only [Act.put, List.setIfInBounds_toArray, List.set_cons_zero, List.set_cons_succ])
  refine wpAnyH_take (i := 6) (oi := ?oH6) (v := ?vH6) ?hiH6 (by kernel_rfl) (by kernel_rfl) (by kernel_rfl) (fun _ _ _ h => h) (Or.inl ⟨?wH6, ?yH6⟩) (by assumption) ?rH6
  case hiH6 => (simp only [List.getElem?_toArray, List.getElem?_cons_succ, List.getElem?_cons_zero]; try rfl)
  case wH6 => rfl
  case yH6 => (intro w hSw; (try dsimp only at hSw); go_simp; (try with_reducible rfl))
  (try simp only [Act.put, List.setIfInBounds_toArray, List.set_cons_zero, List.set_cons_succ])
  refine wpAnyH_take (i := 7) (oi := ?oH7) (v := ?vH7) ?hiH7 (by kernel_rfl) (by kernel_rfl) (by kernel_rfl) (fun _ _ _ h => h) (Or.inl ⟨?wH7, ?yH7⟩) (by assumption) ?rH7
  case hiH7 => (simp only [List.getElem?_toArray, List.getElem?_cons_succ, List.getElem?_cons_zero]; try rfl)
  case wH7 => rfl
  case yH7 => (intro w hSw; (try dsimp only at hSw); go_simp; (try with_reducible rfl))
  (try simp only [Act.put, List.setIfInBounds_toArray, List.set_cons_zero, List.set_cons_succ])
  refine wpAnyH_ready (rs := [8]) (by kernel_rfl) (by simp) ?_
  refine AllReadyH.cons (o := ?oH8) ?hiH8 (fun K hK => ?_) AllReadyH.nil
  case hiH8 => (simp only [List.getElem?_toArray, List.getElem?_cons_succ, List.getElem?_cons_zero]; try rfl)
  refine step_copyN _ _ 190 190 242 2 rfl rfl Tryz.underlying190 sizeBS g0 ((i + 1) * 2) (n - i) (cp - (i + 1)) ⟨g0, i * 2, none⟩ (n + 1 - i) (cp - i) rfl rfl c0.toList T0 HG0D.out (xs.drop (i * 2)) HMN.out HSRC.out HFT.out HXD.out ?_
  intro w3 q3 hg3 hgr3
  refine hK.out _ _ (trivial) (fun hHeld => ?_)
  clear hK K
  (try simp only [Act.put, List.setIfInBounds_toArray, List.set_cons_zero, List.set_cons_succ])
  refine wpAnyH_done (by kernel_rfl) ?_ _
  refine NoPanic.normal ?_
  have HG3 := Lib.hid hg3; have HGR3 := Lib.hid hgr3
  have HQ3 : Hid (w3.heap[q]? = some (.cells cq Tq (0, 0))) := Lib.hid (by rw [hgr3.block q (lt_of_heap HQ.out) (by simp; exact hqg)]; exact HQ.out)
  clear hg3 hgr3
  have hm1 : [y1, y2].length = Nat.min 1 (n + 1 - i) * 2 := by
    rw [show Nat.min 1 (n + 1 - i) = 1 from Nat.min_eq_left (by omega)]; rfl
  have hm2 : i * 2 + [y1, y2].length ≤ (over c0.toList ((i + 1) * 2) (xs.drop (i * 2))).length := by
    rw [over_length HFT.out]; have := HCL.out; simp at this ⊢; omega
  have HM1 := Lib.hid hm1; have HM2 := Lib.hid hm2; have HSC := Lib.hid (src2_cell HQ3.out HQA.out HQB.out)
  have HONE : Hid (∀ v ∈ [y1, y2], v.oneCell' = true) := Lib.hid (by simp [HY.out.1, HY.out.2])
  clear hm1 hm2
  go_wp2_with (refine wpList_copyN (.tmp 80) (.tmp 81) 190 190 242 2 ?_ ?_ Tryz.underlying190 sizeBS g0 (i * 2) (n + 1 - i) (cp - i) ⟨q, 0, none⟩ 1 1 ?_ ?_ (over c0.toList ((i + 1) * 2) (xs.drop (i * 2))) T0 HG3.out [y1, y2] HM1.out HSC.out HM2.out HONE.out ?_; rfl; rfl; rfl; rfl)
  intro w4 q4 hg4 hgr4
  have HG4 := Lib.hid hg4; have HGR4 := Lib.hid hgr4
  clear hg4 hgr4
  go_wp2_with fail
  go_ret
  have k2 : Keep (fun k => k = g0) w w3 := ((Keep.refl _ w).drew).grown HGR3.out (fun k hk e => (Option.some.inj e).symm)
  have k3 : Keep (fun k => k = g0) w w4 := k2.grown HGR4.out (fun k hk e => (Option.some.inj e).symm)
  refine ⟨_, rfl, HG4.out, ?_, ?_, k3.os, k3.tape, k3.output, k3.size, fun k hk hne => k3.block k hk hne⟩
  · rw [List.size_toArray, over_length HM2.out, over_length HFT.out, HSZ.out]
  · exact ins_cells2 HXL.out HCL.out hcp (by omega) HTK.out
theorem hook_insS : HookAt Tryz.prog 153 (hIns 2) := by
  obtain ⟨i, hi, hz, hsize, hby⟩ := info_parts infoBS
  exact hins_at Tryz.underlying190 hi hz (by rw [hsize]; rfl) hsize (by rw [hby]; decide) (by rw [hby]; decide) insS_end insS_grow insS_room
theorem infoBR : (Tryz.prog.info? 149).map (fun i => (i.zero, i.size, i.bytes)) = some (some (.agg #[.int .i64 0, .slice none 0 0]), 2, 32) := by kernel_rfl
theorem sizeBR : (Tryz.prog.info? 149).map (·.size) = some 2 := by kernel_rfl
set_option maxHeartbeats 4000000 in
set_option maxRecDepth 8000 in
theorem insR_end (ao : Option Addr) (n cp q : Nat) (r : Value) (w w1 : World) (hr : (Builtin.append_ #[52, 52] 52 #[.slice ao n cp, .slice (some ⟨q, 0, none⟩) 1 1]).run Tryz.prog w = .ok r w1) (hn : n ≤ 1000000) :
    Calls Tryz.prog 410 #[.slice ao n cp, .int .i64 n, .slice (some ⟨q, 0, none⟩) 1 1] w fun x w' => x = .returned r ∧ w' = w1 := by
  have HR := Lib.hid hr
  clear hr
  go_enter Tryz.func410, Tryz.ntmps410
  go_wp2_with (at_builtin; refine wpList_appR 52 52 rfl rfl rfl rfl HR.out ?_)
  all_goals
    go_wp2_with fail
    go_ret
    exact ⟨rfl, rfl⟩
set_option maxHeartbeats 4000000 in
set_option maxRecDepth 4000 in
theorem insR_grow (g0 n i q : Nat) (c0 cq : Array Value) (T0 Tq : TypeId) (f0 fq : Nat × Nat) (xs : List Value) (y1 y2 : Value) (w : World) (hg0 : w.heap[g0]? = some (.cells c0 T0 f0)) (hc0 : n * 2 ≤ c0.size) (hxs : c0.toList.take (n * 2) = xs) (hx : ∀ u ∈ xs, u.oneCell' = true) (hy : y1.oneCell' = true ∧ y2.oneCell' = true)
    (hq : w.heap[q]? = some (.cells cq Tq fq)) (hq1 : cq[0]? = some y1) (hq0 : cq[1]? = some y2) (hn : n ≤ 1000000) (hi : i < n) :
    Calls Tryz.prog 410 #[.slice (some ⟨g0, 0, none⟩) n n, .int .i64 i, .slice (some ⟨q, 0, none⟩) 1 1] w (GrowIs 149 w n (xs.take (i * 2) ++ [y1, y2] ++ xs.drop (i * 2))) := by
  have hxl : xs.length = n * 2 := by rw [← hxs, List.length_take, Array.length_toList]; omega
  have HXL := Lib.hid hxl; have HXS := Lib.hid hxs; have HG0 := Lib.hid hg0; have HQ := Lib.hid hq; have HY := Lib.hid hy; have HQA := Lib.hid hq1; have HQB := Lib.hid hq0
  have HXD : Hid (∀ v ∈ xs.drop (i * 2), v.oneCell' = true) := Lib.hid fun v hv => hx v (List.mem_of_mem_drop hv)
  have HP := Lib.hid (Go.Ev.firstOld (P := Tryz.prog) (es := 2) (len := i) (cap := n) hg0 (by omega))
  have HPL : Hid ((xs.take (i * 2)).length = i * 2) := Lib.hid (by rw [List.length_take, hxl]; omega)
  have HPT : Hid (c0.toList.take (i * 2) = xs.take (i * 2)) := Lib.hid (by rw [← hxs, List.take_take, Nat.min_eq_left (by omega)])
  have HP2 : Hid (∀ W : World, W.heap = w.heap → (Builtin.firstCells 2 i (.slice (some ⟨g0, 0, none⟩) i n)).run Tryz.prog W = .ok (xs.take (i * 2)).toArray W) := Lib.hid fun W hW => by rw [← HPT.out]; exact HP.out W hW
  have hq2 := lt_of_heap hq
  have hg2' := lt_of_heap hg0
  clear hg0 hxs hq hy hx hq1 hq0 hxl hc0 HP
  have hne : ((i : Int) == n) = false := by simp; omega
  have hgt : (n : Int) < n + 1 := by omega
  obtain ⟨k, hk⟩ : ∃ k : Nat, (n : Int) + 1 - i = k := ⟨n + 1 - i, by omega⟩
  have hki : i + k = n + 1 := by omega
  obtain ⟨g2, hg2⟩ : ∃ g2, w.heap.size = g2 := ⟨_, rfl⟩
  go_enter Tryz.func410, Tryz.ntmps410
  go_wp2_with (at_builtin; refine wpList_appz 52 3 149 (.agg #[.int .i64 0, .slice none 0 0]) 2 32 rfl Tryz.underlying52 Tryz.underlying3 infoBR rfl (by decide) rfl (k := k) rfl rfl HPL.out HP2.out (by omega) (by omega) (by omega) (by omega) (n + 1) hki g2 hg2 ?_)
  intro w1 c1 cur1 hg1 hc1 hc1m hcs1 htk1 hgr1
  have HG1 : Hid (w1.heap[g2]? = some (.cells cur1.toList.toArray 149 (0, 0))) := Lib.hid (by simpa using hg1)
  have HTK1 := Lib.hid htk1; have HGR1 := Lib.hid hgr1
  have HQ1 : Hid (w1.heap[q]? = some (.cells cq Tq fq)) := Lib.hid (by rw [hgr1.block q hq2 (by simp)]; exact HQ.out)
  have hcl : cur1.toList.length = c1 * 2 := by simpa using hcs1
  clear hg1 htk1 hgr1 hcs1 hc1m
  have hm1 : [y1, y2].length = Nat.min 1 (n + 1 - i) * 2 := by
    rw [show Nat.min 1 (n + 1 - i) = 1 from Nat.min_eq_left (by omega)]; rfl
  have hm2 : i * 2 + [y1, y2].length ≤ cur1.toList.length := by rw [hcl]; simp; omega
  have HM1 := Lib.hid hm1; have HM2 := Lib.hid hm2; have HSC := Lib.hid (src2_cell HQ1.out HQA.out HQB.out)
  have HONE : Hid (∀ v ∈ [y1, y2], v.oneCell' = true) := Lib.hid (by simp [HY.out.1, HY.out.2])
  clear hm1 hm2
  have hw : IntKind.i64.wrap ((i : Int) + 1) = (i : Int) + 1 := by rw [IntKind.wrap_i64]; omega
  have hw2 : ((i : Int) + 1).toNat = i + 1 := by omega
  have hw3 : 0 ≤ (i : Int) + 1 := by omega
  have hw4 : (i : Int) + 1 ≤ (n : Int) + 1 := by omega
  have hw6 : (i : Int) ≤ n := by omega
  have hw5 : ¬ c1 = i + 1 := by omega
  have hw7 : ¬ n = i := by omega
  go_wp2_with (refine wpList_copyN (.tmp 43) (.tmp 44) 52 52 149 2 ?_ ?_ Tryz.underlying52 sizeBR g2 (i * 2) (n + 1 - i) (c1 - i) ⟨q, 0, none⟩ 1 1 ?_ ?_ cur1.toList 149 HG1.out [y1, y2] HM1.out HSC.out HM2.out HONE.out ?_; rfl; rfl; rfl; rfl)
  intro w2 q2 hg3' hgr2
  have HG2 := Lib.hid hg3'; have HGR2 := Lib.hid hgr2
  have HG2D : Hid (w2.drew.heap[g2]? = some (.cells (over cur1.toList (i * 2) [y1, y2]).toArray 149 (0, 0))) := Lib.hid hg3'
  have HSRC : Hid (∀ j v, (xs.drop (i * 2))[j]? = some v → w2.drew.cell? ((Addr.mk g0 (i * 2) none).add j) = some v) := Lib.hid (src_drop (n := n) (c0 := c0) (T0 := T0) (f0 := f0) (by
    show w2.heap[g0]? = _
    rw [hgr2.block g0 (Nat.lt_of_lt_of_le hg2' HGR1.out.size) (by rw [← hg2]; simp; omega), HGR1.out.block g0 hg2' (by simp)]
    exact HG0.out) HXS.out)
  have HMN : Hid ((xs.drop (i * 2)).length = Nat.min (n - i) (n - i) * 2) := Lib.hid (by
    rw [List.length_drop, HXL.out, show Nat.min (n - i) (n - i) = n - i from Nat.min_self _]; omega)
  have HFT : Hid ((i + 1) * 2 + (xs.drop (i * 2)).length ≤ (over cur1.toList (i * 2) [y1, y2]).length) := Lib.hid (by
    rw [over_length (by rw [hcl]; simp; omega), hcl, List.length_drop, HXL.out]; omega)
  clear hg3' hgr2
  go_upto_region 11 with fail
  refine wp_region_noPanic ?_
  refine wp_region_held_drew (S := fun _ => True) (by kernel_rfl) (trivial) (fun hHeld => ?_)
  refine wpAnyH_take (i := 0) (oi := ?oG0) (v := ?vG0) ?hiG0 (by kernel_rfl) (by kernel_rfl) (by kernel_rfl) (fun _ _ _ h => h) (Or.inl ⟨?wG0, ?yG0⟩) (by assumption) ?rG0
  case hiG0 => (simp only [List.getElem?_toArray, List.getElem?_cons_zero]; try rfl)
  case wG0 => rfl
  case yG0 => (intro w hSw; (try dsimp only at hSw); go_simp; (try with_reducible rfl))
  (try simp only [Act.put, List.setIfInBounds_toArray, List.set_cons_zero, List.set_cons_succ])
  refine wpAnyH_take (i := 1) (oi := ?oG1) (v := ?vG1) ?hiG1 (by kernel_rfl) (by kernel_rfl) (by kernel_rfl) (fun _ _ _ h => h) (Or.inl ⟨?wG1, ?yG1⟩) (by assumption) ?rG1
  case hiG1 => (simp only [List.getElem?_toArray, List.getElem?_cons_succ, List.getElem?_cons_zero]; try rfl)
  case wG1 => rfl
  case yG1 => (intro w hSw; (try dsimp only at hSw); go_simp; (try with_reducible rfl))
  (try simp only [Act.put, List.setIfInBounds_toArray, List.set_cons_zero, List.set_cons_succ])
  refine wpAnyH_take (i := 2) (oi := ?oG2) (v := ?vG2) ?hiG2 (by kernel_rfl) (by kernel_rfl) (by kernel_rfl) (fun _ _ _ h => h) (Or.inl ⟨?wG2, ?yG2⟩) (by assumption) ?rG2
  case hiG2 => (simp only [List.getElem?_toArray, List.getElem?_cons_succ, List.getElem?_cons_zero]; try rfl)
  case wG2 => rfl
  case yG2 => (intro w hSw; (try dsimp only at hSw); go_simp; (try with_reducible rfl))
  (try simp only [Act.put, List.setIfInBounds_toArray, List.set_cons_zero, List.set_cons_succ])
  refine wpAnyH_take (i := 3) (oi := ?oG3) (v := ?vG3) ?hiG3 (by kernel_rfl) (by kernel_rfl) (by kernel_rfl) (fun _ _ _ h => h) (Or.inl ⟨?wG3, ?yG3⟩) (by assumption) ?rG3
  case hiG3 => (simp only [List.getElem?_toArray, List.getElem?_cons_succ, List.getElem?_cons_zero]; try rfl)
  case wG3 => rfl
  case yG3 => (intro w hSw; (try dsimp only at hSw); go_simp; (try with_reducible rfl))
  (try simp only [Act.put, List.setIfInBounds_toArray, List.set_cons_zero, List.set_cons_succ])
  refine wpAnyH_take (i := 4) (oi := ?oG4) (v := ?vG4) ?hiG4 (by kernel_rfl) (by kernel_rfl) (by kernel_rfl) (fun _ _ _ h => h) (Or.inl ⟨?wG4, ?yG4⟩) (by assumption) ?rG4
  case hiG4 => (simp only [List.getElem?_toArray, List.getElem?_cons_succ, List.getElem?_cons_zero]; try rfl)
  case wG4 => rfl
  case yG4 => (intro w hSw; (try dsimp only at hSw); go_simp; (try with_reducible rfl))
  (try simp only [Act.put, List.setIfInBounds_toArray, List.set_cons_zero, List.set_cons_succ])
  refine wpAnyH_take (i := 5) (oi := ?oG5) (v := ?vG5) ?hiG5 (by kernel_rfl) (by kernel_rfl) (by kernel_rfl) (fun _ _ _ h => h) (Or.inl ⟨?wG5, ?yG5⟩) (by assumption) ?rG5
  case hiG5 => (simp only [List.getElem?_toArray, List.getElem?_cons_succ, List.getElem?_cons_zero]; try rfl)
  case wG5 => rfl
  case yG5 => (intro w hSw; (try dsimp only at hSw); go_simp; (try with_reducible rfl))
  (try simp only [Act.put, List.setIfInBounds_toArray, List.set_cons_zero, List.set_cons_succ])
  refine wpAnyH_take (i := 6) (oi := ?oG6) (v := ?vG6) ?hiG6 (by kernel_rfl) (by kernel_rfl) (by kernel_rfl) (fun _ _ _ h => h) (Or.inl ⟨?wG6, ?yG6⟩) (by assumption) ?rG6
  case hiG6 => (simp only [List.getElem?_toArray, List.getElem?_cons_succ, List.getElem?_cons_zero]; try rfl)
  case wG6 => rfl
  case yG6 => (intro w hSw; (try dsimp only at hSw); go_simp; (try with_reducible rfl))
  (try simp only [Act.put, List.setIfInBounds_toArray, List.set_cons_zero, List.set_cons_succ])
  refine wpAnyH_take (i := 7) (oi := ?oG7) (v := ?vG7) ?hiG7 (by kernel_rfl) (by kernel_rfl) (by kernel_rfl) (fun _ _ _ h => h) (Or.inl ⟨?wG7, ?yG7⟩) (by assumption) ?rG7
  case hiG7 => (simp only [List.getElem?_toArray, List.getElem?_cons_succ, List.getElem?_cons_zero]; try rfl)
  case wG7 => rfl
  case yG7 => (intro w hSw; (try dsimp only at hSw); go_simp; (try with_reducible rfl))
  (try simp only [Act.put, List.setIfInBounds_toArray, List.set_cons_zero, List.set_cons_succ])
  refine wpAnyH_ready (rs := [8]) (by kernel_rfl) (by simp) ?_
  refine AllReadyH.cons (o := ?oG8) ?hiG8 (fun K hK => ?_) AllReadyH.nil
  case hiG8 => (simp only [List.getElem?_toArray, List.getElem?_cons_succ, List.getElem?_cons_zero]; try rfl)
  refine step_copyN _ _ 52 52 149 2 rfl rfl Tryz.underlying52 sizeBR g2 ((i + 1) * 2) (n - i) (c1 - (i + 1)) ⟨g0, i * 2, none⟩ (n - i) (n - i) rfl rfl (over cur1.toList (i * 2) [y1, y2]) 149 HG2D.out (xs.drop (i * 2)) HMN.out HSRC.out HFT.out HXD.out ?_
  intro w3 q3 hg3 hgr3
  refine hK.out _ _ (trivial) (fun hHeld => ?_)
  clear hK K
  (try simp only [Act.put, List.setIfInBounds_toArray, List.set_cons_zero, List.set_cons_succ])
  refine wpAnyH_done (by kernel_rfl) ?_ _
  refine NoPanic.normal ?_
  have HG3 := Lib.hid hg3; have HGR3 := Lib.hid hgr3
  clear hg3 hgr3
  go_wp2_with fail
  go_ret
  refine ⟨c1, _, (by rw [hg2]; rfl), by rw [hg2]; exact HG3.out, hc1, ?_, ?_, Keep.gr ?_⟩
  · rw [List.size_toArray, over_length HFT.out, over_length HM2.out, hcl]
  · exact ins_cells1 HXL.out (by omega) HTK1.out
  · have k1 : Keep NoF w w1 := (Keep.refl NoF w).grown HGR1.out (fun k _ e => by cases e)
    have k2 : Keep NoF w w2.drew := (k1.grown HGR2.out (fun k hk e => by injection e with e; omega)).drew
    exact k2.grown HGR3.out (fun k hk e => by injection e with e; omega)
set_option maxHeartbeats 4000000 in
set_option maxRecDepth 4000 in
theorem insR_room (g0 n cp i q : Nat) (c0 cq : Array Value) (T0 Tq : TypeId) (xs : List Value) (y1 y2 : Value) (w : World) (hg0 : w.heap[g0]? = some (.cells c0 T0 (0, 0))) (hcs : cp * 2 ≤ c0.size) (htk : c0.toList.take (n * 2) = xs) (hx : ∀ u ∈ xs, u.oneCell' = true) (hy : y1.oneCell' = true ∧ y2.oneCell' = true)
    (hq : w.heap[q]? = some (.cells cq Tq (0, 0))) (hq1 : cq[0]? = some y1) (hq2 : cq[1]? = some y2) (hqg : q ≠ g0) (hn : n ≤ 1000000) (hi : i < n) (hcp : n + 1 ≤ cp) :
    Calls Tryz.prog 410 #[.slice (some ⟨g0, 0, none⟩) n cp, .int .i64 i, .slice (some ⟨q, 0, none⟩) 1 1] w (RoomIs T0 w g0 n cp c0.size (xs.take (i * 2) ++ [y1, y2] ++ xs.drop (i * 2))) := by
  have hxl : xs.length = n * 2 := by rw [← htk, List.length_take, Array.length_toList]; omega
  have hcl : cp * 2 ≤ c0.toList.length := by simpa using hcs
  have HXL := Lib.hid hxl
  have HQ := Lib.hid hq; have HY := Lib.hid hy; have HTK := Lib.hid htk; have HQA := Lib.hid hq1; have HQB := Lib.hid hq2
  have HXD : Hid (∀ v ∈ xs.drop (i * 2), v.oneCell' = true) := Lib.hid fun v hv => hx v (List.mem_of_mem_drop hv)
  have HG0D : Hid (w.drew.heap[g0]? = some (.cells c0.toList.toArray T0 (0, 0))) := Lib.hid (show w.heap[g0]? = _ by simpa using hg0)
  have HSRC : Hid (∀ j v, (xs.drop (i * 2))[j]? = some v → w.drew.cell? ((Addr.mk g0 (i * 2) none).add j) = some v) := Lib.hid (src_drop (w := w.drew) (n := n) hg0 htk)
  have HMN : Hid ((xs.drop (i * 2)).length = Nat.min (n + 1 - i) (n - i) * 2) := Lib.hid (by
    rw [List.length_drop, HXL.out, show Nat.min (n + 1 - i) (n - i) = n - i from Nat.min_eq_right (by omega)]; omega)
  have HFT : Hid ((i + 1) * 2 + (xs.drop (i * 2)).length ≤ c0.toList.length) := Lib.hid (by
    rw [List.length_drop, HXL.out]; omega)
  have HCL := Lib.hid hcl
  have HSZ : Hid (c0.toList.length = c0.size) := Lib.hid (by simp)
  have hne : ((i : Int) == n) = false := by simp; omega
  have hgt : ¬ ((cp : Int) < n + 1) := by omega
  have hc9 : ¬ cp = i + 1 := by omega
  have hc8 : ¬ cp = i := by omega
  have hov : ∀ lb cb, (callFunc 469 #[.slice (some ⟨q, 0, none⟩) 1 1, .slice (some ⟨g0, (i + 1) * 2, none⟩) lb cb]).run Tryz.prog w = .ok (.value (.bool false)) w := fun lb cb => by
    rw [run_callFunc_extern Tryz.func469 (by kernel_rfl) (by kernel_rfl) (by kernel_rfl) (e := Extern.SlicesOverlaps.overlaps #[52, 52] #[4]) (by kernel_rfl),
      Lib.run_overlaps_apart w 52 4 149 Tryz.underlying52 2 Tryz.sizeOf149 ⟨q, 0, none⟩ ⟨g0, (i + 1) * 2, none⟩ 1 1 lb cb hqg Tq T0 cq.size c0.size (by simp [World.shape?, hq]) (by simp [World.shape?, hg0]) (by omega) (free_of_heap hq 0) (free_of_heap hq cq.size)]
    rfl
  clear hx hy hq hg0 htk hcs hq1 hq2 hxl hcl
  have hw : IntKind.i64.wrap ((i : Int) + 1) = (i : Int) + 1 := by rw [IntKind.wrap_i64]; omega
  have hw2 : ((i : Int) + 1).toNat = i + 1 := by omega
  have hw3 : 0 ≤ (i : Int) + 1 := by omega
  have hw4 : (i : Int) + 1 ≤ (n : Int) + 1 := by omega
  have hw6 : (i : Int) ≤ (n : Int) + 1 := by omega
  go_enter Tryz.func410, Tryz.ntmps410
  go_upto_region 15 with fail
  refine wp_region_noPanic ?_
  refine wp_region_held_drew (S := fun _ => True) (by kernel_rfl) (trivial) (fun hHeld => ?_)
  refine wpAnyH_take (i := 0) (oi := ?oH0) (v := ?vH0) ?hiH0 (by kernel_rfl) (by kernel_rfl) (by kernel_rfl) (fun _ _ _ h => h) (Or.inl ⟨?wH0, ?yH0⟩) (by assumption) ?rH0
  case hiH0 => (simp only [List.getElem?_toArray, List.getElem?_cons_zero]; try rfl)
  case wH0 => rfl
  case yH0 => (intro w hSw; (try dsimp only at hSw); go_simp; (try with_reducible rfl))
  (try simp only [Act.put, List.setIfInBounds_toArray, List.set_cons_zero, List.set_cons_succ])
  refine wpAnyH_take (i := 1) (oi := ?oH1) (v := ?vH1) ?hiH1 (by kernel_rfl) (by kernel_rfl) (by kernel_rfl) (fun _ _ _ h => h) (Or.inl ⟨?wH1, ?yH1⟩) (by assumption) ?rH1
  case hiH1 => (simp only [List.getElem?_toArray, List.getElem?_cons_succ, List.getElem?_cons_zero]; try rfl)
  case wH1 => rfl
  case yH1 => (intro w hSw; (try dsimp only at hSw); go_simp; (try with_reducible rfl))
  (try simp only [Act.put, List.setIfInBounds_toArray, List.set_cons_zero, List.set_cons_succ])
  refine wpAnyH_take (i := 2) (oi := ?oH2) (v := ?vH2) ?hiH2 (by kernel_rfl) (by kernel_rfl) (by kernel_rfl) (fun _ _ _ h => h) (Or.inl ⟨?wH2, ?yH2⟩) (by assumption) ?rH2
  case hiH2 => (simp only [List.getElem?_toArray, List.getElem?_cons_succ, List.getElem?_cons_zero]; try rfl)
  case wH2 => rfl
  case yH2 => (intro w hSw; (try dsimp only at hSw); go_simp; (try with_reducible rfl))
  (try simp only [Act.put, List.setIfInBounds_toArray, List.set_cons_zero, List.set_cons_succ])
  refine wpAnyH_take (i := 3) (oi := ?oH3) (v := ?vH3) ?hiH3 (by kernel_rfl) (by kernel_rfl) (by kernel_rfl) (fun _ _ _ h => h) (Or.inl ⟨?wH3, ?yH3⟩) (by assumption) ?rH3
  case hiH3 => (simp only [List.getElem?_toArray, List.getElem?_cons_succ, List.getElem?_cons_zero]; try rfl)
  case wH3 => rfl
  case yH3 => (intro w hSw; (try dsimp only at hSw); go_simp; (try with_reducible rfl))
  (try simp only [Act.put, List.setIfInBounds_toArray, List.set_cons_zero, List.set_cons_succ])
  refine wpAnyH_take (i := 4) (oi := ?oH4) (v := ?vH4) ?hiH4 (by kernel_rfl) (by kernel_rfl) (by kernel_rfl) (fun _ _ _ h => h) (Or.inl ⟨?wH4, ?yH4⟩) (by assumption) ?rH4
  case hiH4 => (simp only [List.getElem?_toArray, List.getElem?_cons_succ, List.getElem?_cons_zero]; try rfl)
  case wH4 => rfl
  case yH4 => (intro w hSw; (try dsimp only at hSw); go_simp; (try with_reducible rfl))
  (try simp only [Act.put, List.setIfInBounds_toArray, List.set_cons_zero, List.set_cons_succ])
  refine wpAnyH_take (i := 5) (oi := ?oH5) (v := ?vH5) ?hiH5 (by kernel_rfl) (by kernel_rfl) (by kernel_rfl) (fun _ _ _ h => h) (Or.inl ⟨?wH5, ?yH5⟩) (by assumption) ?rH5
  case hiH5 => (simp only [List.getElem?_toArray, List.getElem?_cons_succ, List.getElem?_cons_zero]; try rfl)
  case wH5 => rfl
  case yH5 => (intro w hSw; (try dsimp only at hSw); go_simp; (try with_reducible rfl))
  (try simp only [Act.put, List.setIfInBounds_toArray, List.set_cons_zero, List.set_cons_succ])
  refine wpAnyH_take (i := 6) (oi := ?oH6) (v := ?vH6) ?hiH6 (by kernel_rfl) (by kernel_rfl) (by kernel_rfl) (fun _ _ _ h => h) (Or.inl ⟨?wH6, ?yH6⟩) (by assumption) ?rH6
  case hiH6 => (simp only [List.getElem?_toArray, List.getElem?_cons_succ, List.getElem?_cons_zero]; try rfl)
  case wH6 => rfl
  case yH6 => (intro w hSw; (try dsimp only at hSw); go_simp; (try with_reducible rfl))
  (try simp only [Act.put, List.setIfInBounds_toArray, List.set_cons_zero, List.set_cons_succ])
  refine wpAnyH_take (i := 7) (oi := ?oH7) (v := ?vH7) ?hiH7 (by kernel_rfl) (by kernel_rfl) (by kernel_rfl) (fun _ _ _ h => h) (Or.inl ⟨?wH7, ?yH7⟩) (by assumption) ?rH7
  case hiH7 => (simp only [List.getElem?_toArray, List.getElem?_cons_succ, List.getElem?_cons_zero]; try rfl)
  case wH7 => rfl
  case yH7 => (intro w hSw; (try dsimp only at hSw); go_simp; (try with_reducible rfl))
  (try simp only [Act.put, List.setIfInBounds_toArray, List.set_cons_zero, List.set_cons_succ])
  refine wpAnyH_ready (rs := [8]) (by kernel_rfl) (by simp) ?_
  refine AllReadyH.cons (o := ?oH8) ?hiH8 (fun K hK => ?_) AllReadyH.nil
  case hiH8 => (simp only [List.getElem?_toArray, List.getElem?_cons_succ, List.getElem?_cons_zero]; try rfl)
  refine step_copyN _ _ 52 52 149 2 rfl rfl Tryz.underlying52 sizeBR g0 ((i + 1) * 2) (n - i) (cp - (i + 1)) ⟨g0, i * 2, none⟩ (n + 1 - i) (cp - i) rfl rfl c0.toList T0 HG0D.out (xs.drop (i * 2)) HMN.out HSRC.out HFT.out HXD.out ?_
  intro w3 q3 hg3 hgr3
  refine hK.out _ _ (trivial) (fun hHeld => ?_)
  clear hK K
  (try simp only [Act.put, List.setIfInBounds_toArray, List.set_cons_zero, List.set_cons_succ])
  refine wpAnyH_done (by kernel_rfl) ?_ _
  refine NoPanic.normal ?_
  have HG3 := Lib.hid hg3; have HGR3 := Lib.hid hgr3
  have HQ3 : Hid (w3.heap[q]? = some (.cells cq Tq (0, 0))) := Lib.hid (by rw [hgr3.block q (lt_of_heap HQ.out) (by simp; exact hqg)]; exact HQ.out)
  clear hg3 hgr3
  have hm1 : [y1, y2].length = Nat.min 1 (n + 1 - i) * 2 := by
    rw [show Nat.min 1 (n + 1 - i) = 1 from Nat.min_eq_left (by omega)]; rfl
  have hm2 : i * 2 + [y1, y2].length ≤ (over c0.toList ((i + 1) * 2) (xs.drop (i * 2))).length := by
    rw [over_length HFT.out]; have := HCL.out; simp at this ⊢; omega
  have HM1 := Lib.hid hm1; have HM2 := Lib.hid hm2; have HSC := Lib.hid (src2_cell HQ3.out HQA.out HQB.out)
  have HONE : Hid (∀ v ∈ [y1, y2], v.oneCell' = true) := Lib.hid (by simp [HY.out.1, HY.out.2])
  clear hm1 hm2
  go_wp2_with (refine wpList_copyN (.tmp 80) (.tmp 81) 52 52 149 2 ?_ ?_ Tryz.underlying52 sizeBR g0 (i * 2) (n + 1 - i) (cp - i) ⟨q, 0, none⟩ 1 1 ?_ ?_ (over c0.toList ((i + 1) * 2) (xs.drop (i * 2))) T0 HG3.out [y1, y2] HM1.out HSC.out HM2.out HONE.out ?_; rfl; rfl; rfl; rfl)
  intro w4 q4 hg4 hgr4
  have HG4 := Lib.hid hg4; have HGR4 := Lib.hid hgr4
  clear hg4 hgr4
  go_wp2_with fail
  go_ret
  have k2 : Keep (fun k => k = g0) w w3 := ((Keep.refl _ w).drew).grown HGR3.out (fun k hk e => (Option.some.inj e).symm)
  have k3 : Keep (fun k => k = g0) w w4 := k2.grown HGR4.out (fun k hk e => (Option.some.inj e).symm)
  refine ⟨_, rfl, HG4.out, ?_, ?_, k3.os, k3.tape, k3.output, k3.size, fun k hk hne => k3.block k hk hne⟩
  · rw [List.size_toArray, over_length HM2.out, over_length HFT.out, HSZ.out]
  · exact ins_cells2 HXL.out HCL.out hcp (by omega) HTK.out
theorem hook_insR : HookAt Tryz.prog 410 (hIns 2) := by
  obtain ⟨i, hi, hz, hsize, hby⟩ := info_parts infoBR
  exact hins_at Tryz.underlying52 hi hz (by rw [hsize]; rfl) hsize (by rw [hby]; decide) (by rw [hby]; decide) insR_end insR_grow insR_room
theorem infoBE : (Tryz.prog.info? 111).map (fun i => (i.zero, i.size, i.bytes)) = some (some (.agg #[.int .i64 0, .bool false]), 2, 16) := by kernel_rfl
theorem sizeBE : (Tryz.prog.info? 111).map (·.size) = some 2 := by kernel_rfl
set_option maxHeartbeats 4000000 in
set_option maxRecDepth 8000 in
theorem insE_end (ao : Option Addr) (n cp q : Nat) (r : Value) (w w1 : World) (hr : (Builtin.append_ #[53, 53] 53 #[.slice ao n cp, .slice (some ⟨q, 0, none⟩) 1 1]).run Tryz.prog w = .ok r w1) (hn : n ≤ 1000000) :
    Calls Tryz.prog 466 #[.slice ao n cp, .int .i64 n, .slice (some ⟨q, 0, none⟩) 1 1] w fun x w' => x = .returned r ∧ w' = w1 := by
  have HR := Lib.hid hr
  clear hr
  go_enter Tryz.func466, Tryz.ntmps466
  go_wp2_with (at_builtin; refine wpList_appR 53 53 rfl rfl rfl rfl HR.out ?_)
  all_goals
    go_wp2_with fail
    go_ret
    exact ⟨rfl, rfl⟩
set_option maxHeartbeats 4000000 in
set_option maxRecDepth 4000 in
theorem insE_grow (g0 n i q : Nat) (c0 cq : Array Value) (T0 Tq : TypeId) (f0 fq : Nat × Nat) (xs : List Value) (y1 y2 : Value) (w : World) (hg0 : w.heap[g0]? = some (.cells c0 T0 f0)) (hc0 : n * 2 ≤ c0.size) (hxs : c0.toList.take (n * 2) = xs) (hx : ∀ u ∈ xs, u.oneCell' = true) (hy : y1.oneCell' = true ∧ y2.oneCell' = true)
    (hq : w.heap[q]? = some (.cells cq Tq fq)) (hq1 : cq[0]? = some y1) (hq0 : cq[1]? = some y2) (hn : n ≤ 1000000) (hi : i < n) :
    Calls Tryz.prog 466 #[.slice (some ⟨g0, 0, none⟩) n n, .int .i64 i, .slice (some ⟨q, 0, none⟩) 1 1] w (GrowIs 111 w n (xs.take (i * 2) ++ [y1, y2] ++ xs.drop (i * 2))) := by
  have hxl : xs.length = n * 2 := by rw [← hxs, List.length_take, Array.length_toList]; omega
  have HXL := Lib.hid hxl; have HXS := Lib.hid hxs; have HG0 := Lib.hid hg0; have HQ := Lib.hid hq; have HY := Lib.hid hy; have HQA := Lib.hid hq1; have HQB := Lib.hid hq0
  have HXD : Hid (∀ v ∈ xs.drop (i * 2), v.oneCell' = true) := Lib.hid fun v hv => hx v (List.mem_of_mem_drop hv)
  have HP := Lib.hid (Go.Ev.firstOld (P := Tryz.prog) (es := 2) (len := i) (cap := n) hg0 (by omega))
  have HPL : Hid ((xs.take (i * 2)).length = i * 2) := Lib.hid (by rw [List.length_take, hxl]; omega)
  have HPT : Hid (c0.toList.take (i * 2) = xs.take (i * 2)) := Lib.hid (by rw [← hxs, List.take_take, Nat.min_eq_left (by omega)])
  have HP2 : Hid (∀ W : World, W.heap = w.heap → (Builtin.firstCells 2 i (.slice (some ⟨g0, 0, none⟩) i n)).run Tryz.prog W = .ok (xs.take (i * 2)).toArray W) := Lib.hid fun W hW => by rw [← HPT.out]; exact HP.out W hW
  have hq2 := lt_of_heap hq
  have hg2' := lt_of_heap hg0
  clear hg0 hxs hq hy hx hq1 hq0 hxl hc0 HP
  have hne : ((i : Int) == n) = false := by simp; omega
  have hgt : (n : Int) < n + 1 := by omega
  obtain ⟨k, hk⟩ : ∃ k : Nat, (n : Int) + 1 - i = k := ⟨n + 1 - i, by omega⟩
  have hki : i + k = n + 1 := by omega
  obtain ⟨g2, hg2⟩ : ∃ g2, w.heap.size = g2 := ⟨_, rfl⟩
  go_enter Tryz.func466, Tryz.ntmps466
  go_wp2_with (at_builtin; refine wpList_appz 53 3 111 (.agg #[.int .i64 0, .bool false]) 2 16 rfl Tryz.underlying53 Tryz.underlying3 infoBE rfl (by decide) rfl (k := k) rfl rfl HPL.out HP2.out (by omega) (by omega) (by omega) (by omega) (n + 1) hki g2 hg2 ?_)
  intro w1 c1 cur1 hg1 hc1 hc1m hcs1 htk1 hgr1
  have HG1 : Hid (w1.heap[g2]? = some (.cells cur1.toList.toArray 111 (0, 0))) := Lib.hid (by simpa using hg1)
  have HTK1 := Lib.hid htk1; have HGR1 := Lib.hid hgr1
  have HQ1 : Hid (w1.heap[q]? = some (.cells cq Tq fq)) := Lib.hid (by rw [hgr1.block q hq2 (by simp)]; exact HQ.out)
  have hcl : cur1.toList.length = c1 * 2 := by simpa using hcs1
  clear hg1 htk1 hgr1 hcs1 hc1m
  have hm1 : [y1, y2].length = Nat.min 1 (n + 1 - i) * 2 := by
    rw [show Nat.min 1 (n + 1 - i) = 1 from Nat.min_eq_left (by omega)]; rfl
  have hm2 : i * 2 + [y1, y2].length ≤ cur1.toList.length := by rw [hcl]; simp; omega
  have HM1 := Lib.hid hm1; have HM2 := Lib.hid hm2; have HSC := Lib.hid (src2_cell HQ1.out HQA.out HQB.out)
  have HONE : Hid (∀ v ∈ [y1, y2], v.oneCell' = true) := Lib.hid (by simp [HY.out.1, HY.out.2])
  clear hm1 hm2
  have hw : IntKind.i64.wrap ((i : Int) + 1) = (i : Int) + 1 := by rw [IntKind.wrap_i64]; omega
  have hw2 : ((i : Int) + 1).toNat = i + 1 := by omega
  have hw3 : 0 ≤ (i : Int) + 1 := by omega
  have hw4 : (i : Int) + 1 ≤ (n : Int) + 1 := by omega
  have hw6 : (i : Int) ≤ n := by omega
  have hw5 : ¬ c1 = i + 1 := by omega
  have hw7 : ¬ n = i := by omega
  go_wp2_with (refine wpList_copyN (.tmp 43) (.tmp 44) 53 53 111 2 ?_ ?_ Tryz.underlying53 sizeBE g2 (i * 2) (n + 1 - i) (c1 - i) ⟨q, 0, none⟩ 1 1 ?_ ?_ cur1.toList 111 HG1.out [y1, y2] HM1.out HSC.out HM2.out HONE.out ?_; rfl; rfl; rfl; rfl)
  intro w2 q2 hg3' hgr2
  have HG2 := Lib.hid hg3'; have HGR2 := Lib.hid hgr2
  have HG2D : Hid (w2.drew.heap[g2]? = some (.cells (over cur1.toList (i * 2) [y1, y2]).toArray 111 (0, 0))) := Lib.hid hg3'
  have HSRC : Hid (∀ j v, (xs.drop (i * 2))[j]? = some v → w2.drew.cell? ((Addr.mk g0 (i * 2) none).add j) = some v) := Lib.hid (src_drop (n := n) (c0 := c0) (T0 := T0) (f0 := f0) (by
    show w2.heap[g0]? = _
    rw [hgr2.block g0 (Nat.lt_of_lt_of_le hg2' HGR1.out.size) (by rw [← hg2]; simp; omega), HGR1.out.block g0 hg2' (by simp)]
    exact HG0.out) HXS.out)
  have HMN : Hid ((xs.drop (i * 2)).length = Nat.min (n - i) (n - i) * 2) := Lib.hid (by
    rw [List.length_drop, HXL.out, show Nat.min (n - i) (n - i) = n - i from Nat.min_self _]; omega)
  have HFT : Hid ((i + 1) * 2 + (xs.drop (i * 2)).length ≤ (over cur1.toList (i * 2) [y1, y2]).length) := Lib.hid (by
    rw [over_length (by rw [hcl]; simp; omega), hcl, List.length_drop, HXL.out]; omega)
  clear hg3' hgr2
  go_upto_region 11 with fail
  refine wp_region_noPanic ?_
  refine wp_region_held_drew (S := fun _ => True) (by kernel_rfl) (trivial) (fun hHeld => ?_)
  refine wpAnyH_take (i := 0) (oi := ?oG0) (v := ?vG0) ?hiG0 (by kernel_rfl) (by kernel_rfl) (by kernel_rfl) (fun _ _ _ h => h) (Or.inl ⟨?wG0, ?yG0⟩) (by assumption) ?rG0
  case hiG0 => (simp only [List.getElem?_toArray, List.getElem?_cons_zero]; try rfl)
  case wG0 => rfl
  case yG0 => (intro w hSw; (try dsimp only at hSw); go_simp; (try with_reducible rfl))
  (try simp only [Act.put, List.setIfInBounds_toArray, List.set_cons_zero, List.set_cons_succ])
  refine wpAnyH_take (i := 1) (oi := ?oG1) (v := ?vG1) ?hiG1 (by kernel_rfl) (by kernel_rfl) (by kernel_rfl) (fun _ _ _ h => h) (Or.inl ⟨?wG1, ?yG1⟩) (by assumption) ?rG1
  case hiG1 => (simp only [List.getElem?_toArray, List.getElem?_cons_succ, List.getElem?_cons_zero]; try rfl)
  case wG1 => rfl
  case yG1 => (intro w hSw; (try dsimp only at hSw); go_simp; (try with_reducible rfl))
  (try simp only [Act.put, List.setIfInBounds_toArray, List.set_cons_zero, List.set_cons_succ])
  refine wpAnyH_take (i := 2) (oi := ?oG2) (v := ?vG2) ?hiG2 (by kernel_rfl) (by kernel_rfl) (by kernel_rfl) (fun _ _ _ h => h) (Or.inl ⟨?wG2, ?yG2⟩) (by assumption) ?rG2
  case hiG2 => (simp only [List.getElem?_toArray, List.getElem?_cons_succ, List.getElem?_cons_zero]; try rfl)
  case wG2 => rfl
  case yG2 => (intro w hSw; (try dsimp only at hSw); go_simp; (try with_reducible rfl))
  (try simp only [Act.put, List.setIfInBounds_toArray, List.set_cons_zero, List.set_cons_succ])
  refine wpAnyH_take (i := 3) (oi := ?oG3) (v := ?vG3) ?hiG3 (by kernel_rfl) (by kernel_rfl) (by kernel_rfl) (fun _ _ _ h => h) (Or.inl ⟨?wG3, ?yG3⟩) (by assumption) ?rG3
  case hiG3 => (simp only [List.getElem?_toArray, List.getElem?_cons_succ, List.getElem?_cons_zero]; try rfl)
  case wG3 => rfl
  case yG3 => (intro w hSw; (try dsimp only at hSw); go_simp; (try with_reducible rfl))
  (try simp only [Act.put, List.setIfInBounds_toArray, List.set_cons_zero, List.set_cons_succ])
  refine wpAnyH_take (i := 4) (oi := ?oG4) (v := ?vG4) ?hiG4 (by kernel_rfl) (by kernel_rfl) (by kernel_rfl) (fun _ _ _ h => h) (Or.inl ⟨?wG4, ?yG4⟩) (by assumption) ?rG4
  case hiG4 => (simp only [List.getElem?_toArray, List.getElem?_cons_succ, List.getElem?_cons_zero]; try rfl)
  case wG4 => rfl
  case yG4 => (intro w hSw; (try dsimp only at hSw); go_simp; (try with_reducible rfl))
  (try simp only [Act.put, List.setIfInBounds_toArray, List.set_cons_zero, List.set_cons_succ])
  refine wpAnyH_take (i := 5) (oi := ?oG5) (v := ?vG5) ?hiG5 (by kernel_rfl) (by kernel_rfl) (by kernel_rfl) (fun _ _ _ h => h) (Or.inl ⟨?wG5, ?yG5⟩) (by assumption) ?rG5
  case hiG5 => (simp only [List.getElem?_toArray, List.getElem?_cons_succ, List.getElem?_cons_zero]; try rfl)
  case wG5 => rfl
  case yG5 => (intro w hSw; (try dsimp only at hSw); go_simp; (try with_reducible rfl))
  (try simp only [Act.put, List.setIfInBounds_toArray, List.set_cons_zero, List.set_cons_succ])
  refine wpAnyH_take (i := 6) (oi := ?oG6) (v := ?vG6) ?hiG6 (by kernel_rfl) (by kernel_rfl) (by kernel_rfl) (fun _ _ _ h => h) (Or.inl ⟨?wG6, ?yG6⟩) (by assumption) ?rG6
  case hiG6 => (simp only [List.getElem?_toArray, List.getElem?_cons_succ, List.getElem?_cons_zero]; try rfl)
  case wG6 => rfl
  case yG6 => (intro w hSw; (try dsimp only at hSw); go_simp; (try with_reducible rfl))
  (try simp only [Act.put, List.setIfInBounds_toArray, List.set_cons_zero, List.set_cons_succ])
  refine wpAnyH_take (i := 7) (oi := ?oG7) (v := ?vG7) ?hiG7 (by kernel_rfl) (by kernel_rfl) (by kernel_rfl) (fun _ _ _ h => h) (Or.inl ⟨?wG7, ?yG7⟩) (by assumption) ?rG7
  case hiG7 => (simp only [List.getElem?_toArray, List.getElem?_cons_succ, List.getElem?_cons_zero]; try rfl)
  case wG7 => rfl
  case yG7 => (intro w hSw; (try dsimp only at hSw); go_simp; (try with_reducible rfl))
  (try simp only [Act.put, List.setIfInBounds_toArray, List.set_cons_zero, List.set_cons_succ])
  refine wpAnyH_ready (rs := [8]) (by kernel_rfl) (by simp) ?_
  refine AllReadyH.cons (o := ?oG8) ?hiG8 (fun K hK => ?_) AllReadyH.nil
  case hiG8 => (simp only [List.getElem?_toArray, List.getElem?_cons_succ, List.getElem?_cons_zero]; try rfl)
  refine step_copyN _ _ 53 53 111 2 rfl rfl Tryz.underlying53 sizeBE g2 ((i + 1) * 2) (n - i) (c1 - (i + 1)) ⟨g0, i * 2, none⟩ (n - i) (n - i) rfl rfl (over cur1.toList (i * 2) [y1, y2]) 111 HG2D.out (xs.drop (i * 2)) HMN.out HSRC.out HFT.out HXD.out ?_
  intro w3 q3 hg3 hgr3
  refine hK.out _ _ (trivial) (fun hHeld => ?_)
  clear hK K
  (try simp only [Act.put, List.setIfInBounds_toArray, List.set_cons_zero, List.set_cons_succ])
  refine wpAnyH_done (by kernel_rfl) ?_ _
  refine NoPanic.normal ?_
  have HG3 := Lib.hid hg3; have HGR3 := Lib.hid hgr3
  clear hg3 hgr3
  go_wp2_with fail
  go_ret
  refine ⟨c1, _, (by rw [hg2]; rfl), by rw [hg2]; exact HG3.out, hc1, ?_, ?_, Keep.gr ?_⟩
  · rw [List.size_toArray, over_length HFT.out, over_length HM2.out, hcl]
  · exact ins_cells1 HXL.out (by omega) HTK1.out
  · have k1 : Keep NoF w w1 := (Keep.refl NoF w).grown HGR1.out (fun k _ e => by cases e)
    have k2 : Keep NoF w w2.drew := (k1.grown HGR2.out (fun k hk e => by injection e with e; omega)).drew
    exact k2.grown HGR3.out (fun k hk e => by injection e with e; omega)
set_option maxHeartbeats 4000000 in
set_option maxRecDepth 4000 in
theorem insE_room (g0 n cp i q : Nat) (c0 cq : Array Value) (T0 Tq : TypeId) (xs : List Value) (y1 y2 : Value) (w : World) (hg0 : w.heap[g0]? = some (.cells c0 T0 (0, 0))) (hcs : cp * 2 ≤ c0.size) (htk : c0.toList.take (n * 2) = xs) (hx : ∀ u ∈ xs, u.oneCell' = true) (hy : y1.oneCell' = true ∧ y2.oneCell' = true)
    (hq : w.heap[q]? = some (.cells cq Tq (0, 0))) (hq1 : cq[0]? = some y1) (hq2 : cq[1]? = some y2) (hqg : q ≠ g0) (hn : n ≤ 1000000) (hi : i < n) (hcp : n + 1 ≤ cp) :
    Calls Tryz.prog 466 #[.slice (some ⟨g0, 0, none⟩) n cp, .int .i64 i, .slice (some ⟨q, 0, none⟩) 1 1] w (RoomIs T0 w g0 n cp c0.size (xs.take (i * 2) ++ [y1, y2] ++ xs.drop (i * 2))) := by
  have hxl : xs.length = n * 2 := by rw [← htk, List.length_take, Array.length_toList]; omega
  have hcl : cp * 2 ≤ c0.toList.length := by simpa using hcs
  have HXL := Lib.hid hxl
  have HQ := Lib.hid hq; have HY := Lib.hid hy; have HTK := Lib.hid htk; have HQA := Lib.hid hq1; have HQB := Lib.hid hq2
  have HXD : Hid (∀ v ∈ xs.drop (i * 2), v.oneCell' = true) := Lib.hid fun v hv => hx v (List.mem_of_mem_drop hv)
  have HG0D : Hid (w.drew.heap[g0]? = some (.cells c0.toList.toArray T0 (0, 0))) := Lib.hid (show w.heap[g0]? = _ by simpa using hg0)
  have HSRC : Hid (∀ j v, (xs.drop (i * 2))[j]? = some v → w.drew.cell? ((Addr.mk g0 (i * 2) none).add j) = some v) := Lib.hid (src_drop (w := w.drew) (n := n) hg0 htk)
  have HMN : Hid ((xs.drop (i * 2)).length = Nat.min (n + 1 - i) (n - i) * 2) := Lib.hid (by
    rw [List.length_drop, HXL.out, show Nat.min (n + 1 - i) (n - i) = n - i from Nat.min_eq_right (by omega)]; omega)
  have HFT : Hid ((i + 1) * 2 + (xs.drop (i * 2)).length ≤ c0.toList.length) := Lib.hid (by
    rw [List.length_drop, HXL.out]; omega)
  have HCL := Lib.hid hcl
  have HSZ : Hid (c0.toList.length = c0.size) := Lib.hid (by simp)
  have hne : ((i : Int) == n) = false := by simp; omega
  have hgt : ¬ ((cp : Int) < n + 1) := by omega
  have hc9 : ¬ cp = i + 1 := by omega
  have hc8 : ¬ cp = i := by omega
  have hov : ∀ lb cb, (callFunc 500 #[.slice (some ⟨q, 0, none⟩) 1 1, .slice (some ⟨g0, (i + 1) * 2, none⟩) lb cb]).run Tryz.prog w = .ok (.value (.bool false)) w := fun lb cb => by
    rw [run_callFunc_extern Tryz.func500 (by kernel_rfl) (by kernel_rfl) (by kernel_rfl) (e := Extern.SlicesOverlaps.overlaps #[53, 53] #[4]) (by kernel_rfl),
      Lib.run_overlaps_apart w 53 4 111 Tryz.underlying53 2 Tryz.sizeOf111 ⟨q, 0, none⟩ ⟨g0, (i + 1) * 2, none⟩ 1 1 lb cb hqg Tq T0 cq.size c0.size (by simp [World.shape?, hq]) (by simp [World.shape?, hg0]) (by omega) (free_of_heap hq 0) (free_of_heap hq cq.size)]
    rfl
  clear hx hy hq hg0 htk hcs hq1 hq2 hxl hcl
  have hw : IntKind.i64.wrap ((i : Int) + 1) = (i : Int) + 1 := by rw [IntKind.wrap_i64]; omega
  have hw2 : ((i : Int) + 1).toNat = i + 1 := by omega
  have hw3 : 0 ≤ (i : Int) + 1 := by omega
  have hw4 : (i : Int) + 1 ≤ (n : Int) + 1 := by omega
  have hw6 : (i : Int) ≤ (n : Int) + 1 := by omega
  go_enter Tryz.func466, Tryz.ntmps466
  go_upto_region 15 with fail
  refine wp_region_noPanic ?_
  refine wp_region_held_drew (S := fun _ => True) (by kernel_rfl) (trivial) (fun hHeld => ?_)
  refine wpAnyH_take (i := 0) (oi := ?oH0) (v := ?vH0) ?hiH0 (by kernel_rfl) (by kernel_rfl) (by kernel_rfl) (fun _ _ _ h => h) (Or.inl ⟨?wH0, ?yH0⟩) (by assumption) ?rH0
  case hiH0 => (simp only [List.getElem?_toArray, List.getElem?_cons_zero]; try rfl)
  case wH0 => rfl
  case yH0 => (intro w hSw; (try dsimp only at hSw); go_simp; (try with_reducible rfl))
  (try simp only [Act.put, List.setIfInBounds_toArray, List.set_cons_zero, List.set_cons_succ])
  refine wpAnyH_take (i := 1) (oi := ?oH1) (v := ?vH1) ?hiH1 (by kernel_rfl) (by kernel_rfl) (by kernel_rfl) (fun _ _ _ h => h) (Or.inl ⟨?wH1, ?yH1⟩) (by assumption) ?rH1
  case hiH1 => (simp only [List.getElem?_toArray, List.getElem?_cons_succ, List.getElem?_cons_zero]; try rfl)
  case wH1 => rfl
  case yH1 => (intro w hSw; (try dsimp only at hSw); go_simp; (try with_reducible rfl))
  (try simp only [Act.put, List.setIfInBounds_toArray, List.set_cons_zero, List.set_cons_succ])
  refine wpAnyH_take (i := 2) (oi := ?oH2) (v := ?vH2) ?hiH2 (by kernel_rfl) (by kernel_rfl) (by kernel_rfl) (fun _ _ _ h => h) (Or.inl ⟨?wH2, ?yH2⟩) (by assumption) ?rH2
  case hiH2 => (simp only [List.getElem?_toArray, List.getElem?_cons_succ, List.getElem?_cons_zero]; try rfl)
  case wH2 => rfl
  case yH2 => (intro w hSw; (try dsimp only at hSw); go_simp; (try with_reducible rfl))
  (try simp only [Act.put, List.setIfInBounds_toArray, List.set_cons_zero, List.set_cons_succ])
  refine wpAnyH_take (i := 3) (oi := ?oH3) (v := ?vH3) ?hiH3 (by kernel_rfl) (by kernel_rfl) (by kernel_rfl) (fun _ _ _ h => h) (Or.inl ⟨?wH3, ?yH3⟩) (by assumption) ?rH3
  case hiH3 => (simp only [List.getElem?_toArray, List.getElem?_cons_succ, List.getElem?_cons_zero]; try rfl)
  case wH3 => rfl
  case yH3 => (intro w hSw; (try dsimp only at hSw); go_simp; (try with_reducible rfl))
  (try simp only [Act.put, List.setIfInBounds_toArray, List.set_cons_zero, List.set_cons_succ])
  refine wpAnyH_take (i := 4) (oi := ?oH4) (v := ?vH4) ?hiH4 (by kernel_rfl) (by kernel_rfl) (by kernel_rfl) (fun _ _ _ h => h) (Or.inl ⟨?wH4, ?yH4⟩) (by assumption) ?rH4
  case hiH4 => (simp only [List.getElem?_toArray, List.getElem?_cons_succ, List.getElem?_cons_zero]; try rfl)
  case wH4 => rfl
  case yH4 => (intro w hSw; (try dsimp only at hSw); go_simp; (try with_reducible rfl))
  (try simp only [Act.put, List.setIfInBounds_toArray, List.set_cons_zero, List.set_cons_succ])
  refine wpAnyH_take (i := 5) (oi := ?oH5) (v := ?vH5) ?hiH5 (by kernel_rfl) (by kernel_rfl) (by kernel_rfl) (fun _ _ _ h => h) (Or.inl ⟨?wH5, ?yH5⟩) (by assumption) ?rH5
  case hiH5 => (simp only [List.getElem?_toArray, List.getElem?_cons_succ, List.getElem?_cons_zero]; try rfl)
  case wH5 => rfl
  case yH5 => (intro w hSw; (try dsimp only at hSw); go_simp; (try with_reducible rfl))
  (try simp only [Act.put, List.setIfInBounds_toArray, List.set_cons_zero, List.set_cons_succ])
  refine wpAnyH_take (i := 6) (oi := ?oH6) (v := ?vH6) ?hiH6 (by kernel_rfl) (by kernel_rfl) (by kernel_rfl) (fun _ _ _ h => h) (Or.inl ⟨?wH6, ?yH6⟩) (by assumption) ?rH6
  case hiH6 => (simp only [List.getElem?_toArray, List.getElem?_cons_succ, List.getElem?_cons_zero]; try rfl)
  case wH6 => rfl
  case yH6 => (intro w hSw; (try dsimp only at hSw); go_simp; (try with_reducible rfl))
  (try simp only [Act.put, List.setIfInBounds_toArray, List.set_cons_zero, List.set_cons_succ])
  refine wpAnyH_take (i := 7) (oi := ?oH7) (v := ?vH7) ?hiH7 (by kernel_rfl) (by kernel_rfl) (by kernel_rfl) (fun _ _ _ h => h) (Or.inl ⟨?wH7, ?yH7⟩) (by assumption) ?rH7
  case hiH7 => (simp only [List.getElem?_toArray, List.getElem?_cons_succ, List.getElem?_cons_zero]; try rfl)
  case wH7 => rfl
  case yH7 => (intro w hSw; (try dsimp only at hSw); go_simp; (try with_reducible rfl))
  (try simp only [Act.put, List.setIfInBounds_toArray, List.set_cons_zero, List.set_cons_succ])
  refine wpAnyH_ready (rs := [8]) (by kernel_rfl) (by simp) ?_
  refine AllReadyH.cons (o := ?oH8) ?hiH8 (fun K hK => ?_) AllReadyH.nil
  case hiH8 => (simp only [List.getElem?_toArray, List.getElem?_cons_succ, List.getElem?_cons_zero]; try rfl)
  refine step_copyN _ _ 53 53 111 2 rfl rfl Tryz.underlying53 sizeBE g0 ((i + 1) * 2) (n - i) (cp - (i + 1)) ⟨g0, i * 2, none⟩ (n + 1 - i) (cp - i) rfl rfl c0.toList T0 HG0D.out (xs.drop (i * 2)) HMN.out HSRC.out HFT.out HXD.out ?_
  intro w3 q3 hg3 hgr3
  refine hK.out _ _ (trivial) (fun hHeld => ?_)
  clear hK K
  (try simp only [Act.put, List.setIfInBounds_toArray, List.set_cons_zero, List.set_cons_succ])
  refine wpAnyH_done (by kernel_rfl) ?_ _
  refine NoPanic.normal ?_
  have HG3 := Lib.hid hg3; have HGR3 := Lib.hid hgr3
  have HQ3 : Hid (w3.heap[q]? = some (.cells cq Tq (0, 0))) := Lib.hid (by rw [hgr3.block q (lt_of_heap HQ.out) (by simp; exact hqg)]; exact HQ.out)
  clear hg3 hgr3
  have hm1 : [y1, y2].length = Nat.min 1 (n + 1 - i) * 2 := by
    rw [show Nat.min 1 (n + 1 - i) = 1 from Nat.min_eq_left (by omega)]; rfl
  have hm2 : i * 2 + [y1, y2].length ≤ (over c0.toList ((i + 1) * 2) (xs.drop (i * 2))).length := by
    rw [over_length HFT.out]; have := HCL.out; simp at this ⊢; omega
  have HM1 := Lib.hid hm1; have HM2 := Lib.hid hm2; have HSC := Lib.hid (src2_cell HQ3.out HQA.out HQB.out)
  have HONE : Hid (∀ v ∈ [y1, y2], v.oneCell' = true) := Lib.hid (by simp [HY.out.1, HY.out.2])
  clear hm1 hm2
  go_wp2_with (refine wpList_copyN (.tmp 80) (.tmp 81) 53 53 111 2 ?_ ?_ Tryz.underlying53 sizeBE g0 (i * 2) (n + 1 - i) (cp - i) ⟨q, 0, none⟩ 1 1 ?_ ?_ (over c0.toList ((i + 1) * 2) (xs.drop (i * 2))) T0 HG3.out [y1, y2] HM1.out HSC.out HM2.out HONE.out ?_; rfl; rfl; rfl; rfl)
  intro w4 q4 hg4 hgr4
  have HG4 := Lib.hid hg4; have HGR4 := Lib.hid hgr4
  clear hg4 hgr4
  go_wp2_with fail
  go_ret
  have k2 : Keep (fun k => k = g0) w w3 := ((Keep.refl _ w).drew).grown HGR3.out (fun k hk e => (Option.some.inj e).symm)
  have k3 : Keep (fun k => k = g0) w w4 := k2.grown HGR4.out (fun k hk e => (Option.some.inj e).symm)
  refine ⟨_, rfl, HG4.out, ?_, ?_, k3.os, k3.tape, k3.output, k3.size, fun k hk hne => k3.block k hk hne⟩
  · rw [List.size_toArray, over_length HM2.out, over_length HFT.out, HSZ.out]
  · exact ins_cells2 HXL.out HCL.out hcp (by omega) HTK.out
theorem hook_insE : HookAt Tryz.prog 466 (hIns 2) := by
  obtain ⟨i, hi, hz, hsize, hby⟩ := info_parts infoBE
  exact hins_at Tryz.underlying53 hi hz (by rw [hsize]; rfl) hsize (by rw [hby]; decide) (by rw [hby]; decide) insE_end insE_grow insE_room
theorem infoBQ : (Tryz.prog.info? 152).map (fun i => (i.zero, i.size, i.bytes)) = some (some (.agg #[.int .i64 0, .slice none 0 0]), 2, 32) := by kernel_rfl
theorem sizeBQ : (Tryz.prog.info? 152).map (·.size) = some 2 := by kernel_rfl
set_option maxHeartbeats 4000000 in
set_option maxRecDepth 8000 in
theorem insQ_end (ao : Option Addr) (n cp q : Nat) (r : Value) (w w1 : World) (hr : (Builtin.append_ #[54, 54] 54 #[.slice ao n cp, .slice (some ⟨q, 0, none⟩) 1 1]).run Tryz.prog w = .ok r w1) (hn : n ≤ 1000000) :
    Calls Tryz.prog 471 #[.slice ao n cp, .int .i64 n, .slice (some ⟨q, 0, none⟩) 1 1] w fun x w' => x = .returned r ∧ w' = w1 := by
  have HR := Lib.hid hr
  clear hr
  go_enter Tryz.func471, Tryz.ntmps471
  go_wp2_with (at_builtin; refine wpList_appR 54 54 rfl rfl rfl rfl HR.out ?_)
  all_goals
    go_wp2_with fail
    go_ret
    exact ⟨rfl, rfl⟩
set_option maxHeartbeats 4000000 in
set_option maxRecDepth 4000 in
theorem insQ_grow (g0 n i q : Nat) (c0 cq : Array Value) (T0 Tq : TypeId) (f0 fq : Nat × Nat) (xs : List Value) (y1 y2 : Value) (w : World) (hg0 : w.heap[g0]? = some (.cells c0 T0 f0)) (hc0 : n * 2 ≤ c0.size) (hxs : c0.toList.take (n * 2) = xs) (hx : ∀ u ∈ xs, u.oneCell' = true) (hy : y1.oneCell' = true ∧ y2.oneCell' = true)
    (hq : w.heap[q]? = some (.cells cq Tq fq)) (hq1 : cq[0]? = some y1) (hq0 : cq[1]? = some y2) (hn : n ≤ 1000000) (hi : i < n) :
    Calls Tryz.prog 471 #[.slice (some ⟨g0, 0, none⟩) n n, .int .i64 i, .slice (some ⟨q, 0, none⟩) 1 1] w (GrowIs 152 w n (xs.take (i * 2) ++ [y1, y2] ++ xs.drop (i * 2))) := by
  have hxl : xs.length = n * 2 := by rw [← hxs, List.length_take, Array.length_toList]; omega
  have HXL := Lib.hid hxl; have HXS := Lib.hid hxs; have HG0 := Lib.hid hg0; have HQ := Lib.hid hq; have HY := Lib.hid hy; have HQA := Lib.hid hq1; have HQB := Lib.hid hq0
  have HXD : Hid (∀ v ∈ xs.drop (i * 2), v.oneCell' = true) := Lib.hid fun v hv => hx v (List.mem_of_mem_drop hv)
  have HP := Lib.hid (Go.Ev.firstOld (P := Tryz.prog) (es := 2) (len := i) (cap := n) hg0 (by omega))
  have HPL : Hid ((xs.take (i * 2)).length = i * 2) := Lib.hid (by rw [List.length_take, hxl]; omega)
  have HPT : Hid (c0.toList.take (i * 2) = xs.take (i * 2)) := Lib.hid (by rw [← hxs, List.take_take, Nat.min_eq_left (by omega)])
  have HP2 : Hid (∀ W : World, W.heap = w.heap → (Builtin.firstCells 2 i (.slice (some ⟨g0, 0, none⟩) i n)).run Tryz.prog W = .ok (xs.take (i * 2)).toArray W) := Lib.hid fun W hW => by rw [← HPT.out]; exact HP.out W hW
  have hq2 := lt_of_heap hq
  have hg2' := lt_of_heap hg0
  clear hg0 hxs hq hy hx hq1 hq0 hxl hc0 HP
  have hne : ((i : Int) == n) = false := by simp; omega
  have hgt : (n : Int) < n + 1 := by omega
  obtain ⟨k, hk⟩ : ∃ k : Nat, (n : Int) + 1 - i = k := ⟨n + 1 - i, by omega⟩
  have hki : i + k = n + 1 := by omega
  obtain ⟨g2, hg2⟩ : ∃ g2, w.heap.size = g2 := ⟨_, rfl⟩
  go_enter Tryz.func471, Tryz.ntmps471
  go_wp2_with (at_builtin; refine wpList_appz 54 3 152 (.agg #[.int .i64 0, .slice none 0 0]) 2 32 rfl Tryz.underlying54 Tryz.underlying3 infoBQ rfl (by decide) rfl (k := k) rfl rfl HPL.out HP2.out (by omega) (by omega) (by omega) (by omega) (n + 1) hki g2 hg2 ?_)
  intro w1 c1 cur1 hg1 hc1 hc1m hcs1 htk1 hgr1
  have HG1 : Hid (w1.heap[g2]? = some (.cells cur1.toList.toArray 152 (0, 0))) := Lib.hid (by simpa using hg1)
  have HTK1 := Lib.hid htk1; have HGR1 := Lib.hid hgr1
  have HQ1 : Hid (w1.heap[q]? = some (.cells cq Tq fq)) := Lib.hid (by rw [hgr1.block q hq2 (by simp)]; exact HQ.out)
  have hcl : cur1.toList.length = c1 * 2 := by simpa using hcs1
  clear hg1 htk1 hgr1 hcs1 hc1m
  have hm1 : [y1, y2].length = Nat.min 1 (n + 1 - i) * 2 := by
    rw [show Nat.min 1 (n + 1 - i) = 1 from Nat.min_eq_left (by omega)]; rfl
  have hm2 : i * 2 + [y1, y2].length ≤ cur1.toList.length := by rw [hcl]; simp; omega
  have HM1 := Lib.hid hm1; have HM2 := Lib.hid hm2; have HSC := Lib.hid (src2_cell HQ1.out HQA.out HQB.out)
  have HONE : Hid (∀ v ∈ [y1, y2], v.oneCell' = true) := Lib.hid (by simp [HY.out.1, HY.out.2])
  clear hm1 hm2
  have hw : IntKind.i64.wrap ((i : Int) + 1) = (i : Int) + 1 := by rw [IntKind.wrap_i64]; omega
  have hw2 : ((i : Int) + 1).toNat = i + 1 := by omega
  have hw3 : 0 ≤ (i : Int) + 1 := by omega
  have hw4 : (i : Int) + 1 ≤ (n : Int) + 1 := by omega
  have hw6 : (i : Int) ≤ n := by omega
  have hw5 : ¬ c1 = i + 1 := by omega
  have hw7 : ¬ n = i := by omega
  go_wp2_with (refine wpList_copyN (.tmp 43) (.tmp 44) 54 54 152 2 ?_ ?_ Tryz.underlying54 sizeBQ g2 (i * 2) (n + 1 - i) (c1 - i) ⟨q, 0, none⟩ 1 1 ?_ ?_ cur1.toList 152 HG1.out [y1, y2] HM1.out HSC.out HM2.out HONE.out ?_; rfl; rfl; rfl; rfl)
  intro w2 q2 hg3' hgr2
  have HG2 := Lib.hid hg3'; have HGR2 := Lib.hid hgr2
  have HG2D : Hid (w2.drew.heap[g2]? = some (.cells (over cur1.toList (i * 2) [y1, y2]).toArray 152 (0, 0))) := Lib.hid hg3'
  have HSRC : Hid (∀ j v, (xs.drop (i * 2))[j]? = some v → w2.drew.cell? ((Addr.mk g0 (i * 2) none).add j) = some v) := Lib.hid (src_drop (n := n) (c0 := c0) (T0 := T0) (f0 := f0) (by
    show w2.heap[g0]? = _
    rw [hgr2.block g0 (Nat.lt_of_lt_of_le hg2' HGR1.out.size) (by rw [← hg2]; simp; omega), HGR1.out.block g0 hg2' (by simp)]
    exact HG0.out) HXS.out)
  have HMN : Hid ((xs.drop (i * 2)).length = Nat.min (n - i) (n - i) * 2) := Lib.hid (by
    rw [List.length_drop, HXL.out, show Nat.min (n - i) (n - i) = n - i from Nat.min_self _]; omega)
  have HFT : Hid ((i + 1) * 2 + (xs.drop (i * 2)).length ≤ (over cur1.toList (i * 2) [y1, y2]).length) := Lib.hid (by
    rw [over_length (by rw [hcl]; simp; omega), hcl, List.length_drop, HXL.out]; omega)
  clear hg3' hgr2
  go_upto_region 11 with fail
  refine wp_region_noPanic ?_
  refine wp_region_held_drew (S := fun _ => True) (by kernel_rfl) (trivial) (fun hHeld => ?_)
  refine wpAnyH_take (i := 0) (oi := ?oG0) (v := ?vG0) ?hiG0 (by kernel_rfl) (by kernel_rfl) (by kernel_rfl) (fun _ _ _ h => h) (Or.inl ⟨?wG0, ?yG0⟩) (by assumption) ?rG0
  case hiG0 => (simp only [List.getElem?_toArray, List.getElem?_cons_zero]; try rfl)
  case wG0 => rfl
  case yG0 => (intro w hSw; (try dsimp only at hSw); go_simp; (try with_reducible rfl))
  (try simp only [Act.put, List.setIfInBounds_toArray, List.set_cons_zero, List.set_cons_succ])
  refine wpAnyH_take (i := 1) (oi := ?oG1) (v := ?vG1) ?hiG1 (by kernel_rfl) (by kernel_rfl) (by kernel_rfl) (fun _ _ _ h => h) (Or.inl ⟨?wG1, ?yG1⟩) (by assumption) ?rG1
  case hiG1 => (simp only [List.getElem?_toArray, List.getElem?_cons_succ, List.getElem?_cons_zero]; try rfl)
  case wG1 => rfl
  case yG1 => (intro w hSw; (try dsimp only at hSw); go_simp; (try with_reducible rfl))
  (try simp only [Act.put, List.setIfInBounds_toArray, List.set_cons_zero, List.set_cons_succ])
  refine wpAnyH_take (i := 2) (oi := ?oG2) (v := ?vG2) ?hiG2 (by kernel_rfl) (by kernel_rfl) (by kernel_rfl) (fun _ _ _ h => h) (Or.inl ⟨?wG2, ?yG2⟩) (by assumption) ?rG2
  case hiG2 => (simp only [List.getElem?_toArray, List.getElem?_cons_succ, List.getElem?_cons_zero]; try rfl)
  case wG2 => rfl
  case yG2 => (intro w hSw; (try dsimp only at hSw); go_simp; (try with_reducible rfl))
  (try simp only [Act.put, List.setIfInBounds_toArray, List.set_cons_zero, List.set_cons_succ])
  refine wpAnyH_take (i := 3) (oi := ?oG3) (v := ?vG3) ?hiG3 (by kernel_rfl) (by kernel_rfl) (by kernel_rfl) (fun _ _ _ h => h) (Or.inl ⟨?wG3, ?yG3⟩) (by assumption) ?rG3
  case hiG3 => (simp only [List.getElem?_toArray, List.getElem?_cons_succ, List.getElem?_cons_zero]; try rfl)
  case wG3 => rfl
  case yG3 => (intro w hSw; (try dsimp only at hSw); go_simp; (try with_reducible rfl))
  (try simp only [Act.put, List.setIfInBounds_toArray, List.set_cons_zero, List.set_cons_succ])
  refine wpAnyH_take (i := 4) (oi := ?oG4) (v := ?vG4) ?hiG4 (by kernel_rfl) (by kernel_rfl) (by kernel_rfl) (fun _ _ _ h => h) (Or.inl ⟨?wG4, ?yG4⟩) (by assumption) ?rG4
  case hiG4 => (simp only [List.getElem?_toArray, List.getElem?_cons_succ, List.getElem?_cons_zero]; try rfl)
  case wG4 => rfl
  case yG4 => (intro w hSw; (try dsimp only at hSw); go_simp; (try with_reducible rfl))
  (try simp only [Act.put, List.setIfInBounds_toArray, List.set_cons_zero, List.set_cons_succ])
  refine wpAnyH_take (i := 5) (oi := ?oG5) (v := ?vG5) ?hiG5 (by kernel_rfl) (by kernel_rfl) (by kernel_rfl) (fun _ _ _ h => h) (Or.inl ⟨?wG5, ?yG5⟩) (by assumption) ?rG5
  case hiG5 => (simp only [List.getElem?_toArray, List.getElem?_cons_succ, List.getElem?_cons_zero]; try rfl)
  case wG5 => rfl
  case yG5 => (intro w hSw; (try dsimp only at hSw); go_simp; (try with_reducible rfl))
  (try simp only [Act.put, List.setIfInBounds_toArray, List.set_cons_zero, List.set_cons_succ])
  refine wpAnyH_take (i := 6) (oi := ?oG6) (v := ?vG6) ?hiG6 (by kernel_rfl) (by kernel_rfl) (by kernel_rfl) (fun _ _ _ h => h) (Or.inl ⟨?wG6, ?yG6⟩) (by assumption) ?rG6
  case hiG6 => (simp only [List.getElem?_toArray, List.getElem?_cons_succ, List.getElem?_cons_zero]; try rfl)
  case wG6 => rfl
  case yG6 => (intro w hSw; (try dsimp only at hSw); go_simp; (try with_reducible rfl))
  (try simp only [Act.put, List.setIfInBounds_toArray, List.set_cons_zero, List.set_cons_succ])
  refine wpAnyH_take (i := 7) (oi := ?oG7) (v := ?vG7) ?hiG7 (by kernel_rfl) (by kernel_rfl) (by kernel_rfl) (fun _ _ _ h => h) (Or.inl ⟨?wG7, ?yG7⟩) (by assumption) ?rG7
  case hiG7 => (simp only [List.getElem?_toArray, List.getElem?_cons_succ, List.getElem?_cons_zero]; try rfl)
  case wG7 => rfl
  case yG7 => (intro w hSw; (try dsimp only at hSw); go_simp; (try with_reducible rfl))
  (try simp only [Act.put, List.setIfInBounds_toArray, List.set_cons_zero, List.set_cons_succ])
  refine wpAnyH_ready (rs := [8]) (by kernel_rfl) (by simp) ?_
  refine AllReadyH.cons (o := ?oG8) ?hiG8 (fun K hK => ?_) AllReadyH.nil
  case hiG8 => (simp only [List.getElem?_toArray, List.getElem?_cons_succ, List.getElem?_cons_zero]; try rfl)
  refine step_copyN _ _ 54 54 152 2 rfl rfl Tryz.underlying54 sizeBQ g2 ((i + 1) * 2) (n - i) (c1 - (i + 1)) ⟨g0, i * 2, none⟩ (n - i) (n - i) rfl rfl (over cur1.toList (i * 2) [y1, y2]) 152 HG2D.out (xs.drop (i * 2)) HMN.out HSRC.out HFT.out HXD.out ?_
  intro w3 q3 hg3 hgr3
  refine hK.out _ _ (trivial) (fun hHeld => ?_)
  clear hK K
  (try simp only [Act.put, List.setIfInBounds_toArray, List.set_cons_zero, List.set_cons_succ])
  refine wpAnyH_done (by kernel_rfl) ?_ _
  refine NoPanic.normal ?_
  have HG3 := Lib.hid hg3; have HGR3 := Lib.hid hgr3
  clear hg3 hgr3
  go_wp2_with fail
  go_ret
  refine ⟨c1, _, (by rw [hg2]; rfl), by rw [hg2]; exact HG3.out, hc1, ?_, ?_, Keep.gr ?_⟩
  · rw [List.size_toArray, over_length HFT.out, over_length HM2.out, hcl]
  · exact ins_cells1 HXL.out (by omega) HTK1.out
  · have k1 : Keep NoF w w1 := (Keep.refl NoF w).grown HGR1.out (fun k _ e => by cases e)
    have k2 : Keep NoF w w2.drew := (k1.grown HGR2.out (fun k hk e => by injection e with e; omega)).drew
    exact k2.grown HGR3.out (fun k hk e => by injection e with e; omega)
set_option maxHeartbeats 4000000 in
set_option maxRecDepth 4000 in
theorem insQ_room (g0 n cp i q : Nat) (c0 cq : Array Value) (T0 Tq : TypeId) (xs : List Value) (y1 y2 : Value) (w : World) (hg0 : w.heap[g0]? = some (.cells c0 T0 (0, 0))) (hcs : cp * 2 ≤ c0.size) (htk : c0.toList.take (n * 2) = xs) (hx : ∀ u ∈ xs, u.oneCell' = true) (hy : y1.oneCell' = true ∧ y2.oneCell' = true)
    (hq : w.heap[q]? = some (.cells cq Tq (0, 0))) (hq1 : cq[0]? = some y1) (hq2 : cq[1]? = some y2) (hqg : q ≠ g0) (hn : n ≤ 1000000) (hi : i < n) (hcp : n + 1 ≤ cp) :
    Calls Tryz.prog 471 #[.slice (some ⟨g0, 0, none⟩) n cp, .int .i64 i, .slice (some ⟨q, 0, none⟩) 1 1] w (RoomIs T0 w g0 n cp c0.size (xs.take (i * 2) ++ [y1, y2] ++ xs.drop (i * 2))) := by
  have hxl : xs.length = n * 2 := by rw [← htk, List.length_take, Array.length_toList]; omega
  have hcl : cp * 2 ≤ c0.toList.length := by simpa using hcs
  have HXL := Lib.hid hxl
  have HQ := Lib.hid hq; have HY := Lib.hid hy; have HTK := Lib.hid htk; have HQA := Lib.hid hq1; have HQB := Lib.hid hq2
  have HXD : Hid (∀ v ∈ xs.drop (i * 2), v.oneCell' = true) := Lib.hid fun v hv => hx v (List.mem_of_mem_drop hv)
  have HG0D : Hid (w.drew.heap[g0]? = some (.cells c0.toList.toArray T0 (0, 0))) := Lib.hid (show w.heap[g0]? = _ by simpa using hg0)
  have HSRC : Hid (∀ j v, (xs.drop (i * 2))[j]? = some v → w.drew.cell? ((Addr.mk g0 (i * 2) none).add j) = some v) := Lib.hid (src_drop (w := w.drew) (n := n) hg0 htk)
  have HMN : Hid ((xs.drop (i * 2)).length = Nat.min (n + 1 - i) (n - i) * 2) := Lib.hid (by
    rw [List.length_drop, HXL.out, show Nat.min (n + 1 - i) (n - i) = n - i from Nat.min_eq_right (by omega)]; omega)
  have HFT : Hid ((i + 1) * 2 + (xs.drop (i * 2)).length ≤ c0.toList.length) := Lib.hid (by
    rw [List.length_drop, HXL.out]; omega)
  have HCL := Lib.hid hcl
  have HSZ : Hid (c0.toList.length = c0.size) := Lib.hid (by simp)
  have hne : ((i : Int) == n) = false := by simp; omega
  have hgt : ¬ ((cp : Int) < n + 1) := by omega
  have hc9 : ¬ cp = i + 1 := by omega
  have hc8 : ¬ cp = i := by omega
  have hov : ∀ lb cb, (callFunc 503 #[.slice (some ⟨q, 0, none⟩) 1 1, .slice (some ⟨g0, (i + 1) * 2, none⟩) lb cb]).run Tryz.prog w = .ok (.value (.bool false)) w := fun lb cb => by
    rw [run_callFunc_extern Tryz.func503 (by kernel_rfl) (by kernel_rfl) (by kernel_rfl) (e := Extern.SlicesOverlaps.overlaps #[54, 54] #[4]) (by kernel_rfl),
      Lib.run_overlaps_apart w 54 4 152 Tryz.underlying54 2 Tryz.sizeOf152 ⟨q, 0, none⟩ ⟨g0, (i + 1) * 2, none⟩ 1 1 lb cb hqg Tq T0 cq.size c0.size (by simp [World.shape?, hq]) (by simp [World.shape?, hg0]) (by omega) (free_of_heap hq 0) (free_of_heap hq cq.size)]
    rfl
  clear hx hy hq hg0 htk hcs hq1 hq2 hxl hcl
  have hw : IntKind.i64.wrap ((i : Int) + 1) = (i : Int) + 1 := by rw [IntKind.wrap_i64]; omega
  have hw2 : ((i : Int) + 1).toNat = i + 1 := by omega
  have hw3 : 0 ≤ (i : Int) + 1 := by omega
  have hw4 : (i : Int) + 1 ≤ (n : Int) + 1 := by omega
  have hw6 : (i : Int) ≤ (n : Int) + 1 := by omega
  go_enter Tryz.func471, Tryz.ntmps471
  go_upto_region 15 with fail
  refine wp_region_noPanic ?_
  refine wp_region_held_drew (S := fun _ => True) (by kernel_rfl) (trivial) (fun hHeld => ?_)
  refine wpAnyH_take (i := 0) (oi := ?oH0) (v := ?vH0) ?hiH0 (by kernel_rfl) (by kernel_rfl) (by kernel_rfl) (fun _ _ _ h => h) (Or.inl ⟨?wH0, ?yH0⟩) (by assumption) ?rH0
  case hiH0 => (simp only [List.getElem?_toArray, List.getElem?_cons_zero]; try rfl)
  case wH0 => rfl
  case yH0 => (intro w hSw; (try dsimp only at hSw); go_simp; (try with_reducible rfl))
  (try simp only [Act.put, List.setIfInBounds_toArray, List.set_cons_zero, List.set_cons_succ])
  refine wpAnyH_take (i := 1) (oi := ?oH1) (v := ?vH1) ?hiH1 (by kernel_rfl) (by kernel_rfl) (by kernel_rfl) (fun _ _ _ h => h) (Or.inl ⟨?wH1, ?yH1⟩) (by assumption) ?rH1
  case hiH1 => (simp only [List.getElem?_toArray, List.getElem?_cons_succ, List.getElem?_cons_zero]; try rfl)
  case wH1 => rfl
  case yH1 => (intro w hSw; (try dsimp only at hSw); go_simp; (try with_reducible rfl))
  (try simp only [Act.put, List.setIfInBounds_toArray, List.set_cons_zero, List.set_cons_succ])
  refine wpAnyH_take (i := 2) (oi := ?oH2) (v := ?vH2) ?hiH2 (by kernel_rfl) (by kernel_rfl) (by kernel_rfl) (fun _ _ _ h => h) (Or.inl ⟨?wH2, ?yH2⟩) (by assumption) ?rH2
  case hiH2 => (simp only [List.getElem?_toArray, List.getElem?_cons_succ, List.getElem?_cons_zero]; try rfl)
  case wH2 => rfl
  case yH2 => (intro w hSw; (try dsimp only at hSw); go_simp; (try with_reducible rfl))
  (try simp only [Act.put, List.setIfInBounds_toArray, List.set_cons_zero, List.set_cons_succ])
  refine wpAnyH_take (i := 3) (oi := ?oH3) (v := ?vH3) ?hiH3 (by kernel_rfl) (by kernel_rfl) (by kernel_rfl) (fun _ _ _ h => h) (Or.inl ⟨?wH3, ?yH3⟩) (by assumption) ?rH3
  case hiH3 => (simp only [List.getElem?_toArray, List.getElem?_cons_succ, List.getElem?_cons_zero]; try rfl)
  case wH3 => rfl
  case yH3 => (intro w hSw; (try dsimp only at hSw); go_simp; (try with_reducible rfl))
  (try simp only [Act.put, List.setIfInBounds_toArray, List.set_cons_zero, List.set_cons_succ])
  refine wpAnyH_take (i := 4) (oi := ?oH4) (v := ?vH4) ?hiH4 (by kernel_rfl) (by kernel_rfl) (by kernel_rfl) (fun _ _ _ h => h) (Or.inl ⟨?wH4, ?yH4⟩) (by assumption) ?rH4
  case hiH4 => (simp only [List.getElem?_toArray, List.getElem?_cons_succ, List.getElem?_cons_zero]; try rfl)
  case wH4 => rfl
  case yH4 => (intro w hSw; (try dsimp only at hSw); go_simp; (try with_reducible rfl))
  (try simp only [Act.put, List.setIfInBounds_toArray, List.set_cons_zero, List.set_cons_succ])
  refine wpAnyH_take (i := 5) (oi := ?oH5) (v := ?vH5) ?hiH5 (by kernel_rfl) (by kernel_rfl) (by kernel_rfl) (fun _ _ _ h => h) (Or.inl ⟨?wH5, ?yH5⟩) (by assumption) ?rH5
  case hiH5 => (simp only [List.getElem?_toArray, List.getElem?_cons_succ, List.getElem?_cons_zero]; try rfl)
  case wH5 => rfl
  case yH5 => (intro w hSw; (try dsimp only at hSw); go_simp; (try with_reducible rfl))
  (try simp only [Act.put, List.setIfInBounds_toArray, List.set_cons_zero, List.set_cons_succ])
  refine wpAnyH_take (i := 6) (oi := ?oH6) (v := ?vH6) ?hiH6 (by kernel_rfl) (by kernel_rfl) (by kernel_rfl) (fun _ _ _ h => h) (Or.inl ⟨?wH6, ?yH6⟩) (by assumption) ?rH6
  case hiH6 => (simp only [List.getElem?_toArray, List.getElem?_cons_succ, List.getElem?_cons_zero]; try rfl)
  case wH6 => rfl
  case yH6 => (intro w hSw; (try dsimp only at hSw); go_simp; (try with_reducible rfl))
  (try simp only [Act.put, List.setIfInBounds_toArray, List.set_cons_zero, List.set_cons_succ])
  refine wpAnyH_take (i := 7) (oi := ?oH7) (v := ?vH7) ?hiH7 (by kernel_rfl) (by kernel_rfl) (by kernel_rfl) (fun _ _ _ h => h) (Or.inl ⟨?wH7, ?yH7⟩) (by assumption) ?rH7
  case hiH7 => (simp only [List.getElem?_toArray, List.getElem?_cons_succ, List.getElem?_cons_zero]; try rfl)
  case wH7 => rfl
  case yH7 => (intro w hSw; (try dsimp only at hSw); go_simp; (try with_reducible rfl))
  (try simp only [Act.put, List.setIfInBounds_toArray, List.set_cons_zero, List.set_cons_succ])
  refine wpAnyH_ready (rs := [8]) (by kernel_rfl) (by simp) ?_
  refine AllReadyH.cons (o := ?oH8) ?hiH8 (fun K hK => ?_) AllReadyH.nil
  case hiH8 => (simp only [List.getElem?_toArray, List.getElem?_cons_succ, List.getElem?_cons_zero]; try rfl)
  refine step_copyN _ _ 54 54 152 2 rfl rfl Tryz.underlying54 sizeBQ g0 ((i + 1) * 2) (n - i) (cp - (i + 1)) ⟨g0, i * 2, none⟩ (n + 1 - i) (cp - i) rfl rfl c0.toList T0 HG0D.out (xs.drop (i * 2)) HMN.out HSRC.out HFT.out HXD.out ?_
  intro w3 q3 hg3 hgr3
  refine hK.out _ _ (trivial) (fun hHeld => ?_)
  clear hK K
  (try simp only [Act.put, List.setIfInBounds_toArray, List.set_cons_zero, List.set_cons_succ])
  refine wpAnyH_done (by kernel_rfl) ?_ _
  refine NoPanic.normal ?_
  have HG3 := Lib.hid hg3; have HGR3 := Lib.hid hgr3
  have HQ3 : Hid (w3.heap[q]? = some (.cells cq Tq (0, 0))) := Lib.hid (by rw [hgr3.block q (lt_of_heap HQ.out) (by simp; exact hqg)]; exact HQ.out)
  clear hg3 hgr3
  have hm1 : [y1, y2].length = Nat.min 1 (n + 1 - i) * 2 := by
    rw [show Nat.min 1 (n + 1 - i) = 1 from Nat.min_eq_left (by omega)]; rfl
  have hm2 : i * 2 + [y1, y2].length ≤ (over c0.toList ((i + 1) * 2) (xs.drop (i * 2))).length := by
    rw [over_length HFT.out]; have := HCL.out; simp at this ⊢; omega
  have HM1 := Lib.hid hm1; have HM2 := Lib.hid hm2; have HSC := Lib.hid (src2_cell HQ3.out HQA.out HQB.out)
  have HONE : Hid (∀ v ∈ [y1, y2], v.oneCell' = true) := Lib.hid (by simp [HY.out.1, HY.out.2])
  clear hm1 hm2
  go_wp2_with (refine wpList_copyN (.tmp 80) (.tmp 81) 54 54 152 2 ?_ ?_ Tryz.underlying54 sizeBQ g0 (i * 2) (n + 1 - i) (cp - i) ⟨q, 0, none⟩ 1 1 ?_ ?_ (over c0.toList ((i + 1) * 2) (xs.drop (i * 2))) T0 HG3.out [y1, y2] HM1.out HSC.out HM2.out HONE.out ?_; rfl; rfl; rfl; rfl)
  intro w4 q4 hg4 hgr4
  have HG4 := Lib.hid hg4; have HGR4 := Lib.hid hgr4
  clear hg4 hgr4
  go_wp2_with fail
  go_ret
  have k2 : Keep (fun k => k = g0) w w3 := ((Keep.refl _ w).drew).grown HGR3.out (fun k hk e => (Option.some.inj e).symm)
  have k3 : Keep (fun k => k = g0) w w4 := k2.grown HGR4.out (fun k hk e => (Option.some.inj e).symm)
  refine ⟨_, rfl, HG4.out, ?_, ?_, k3.os, k3.tape, k3.output, k3.size, fun k hk hne => k3.block k hk hne⟩
  · rw [List.size_toArray, over_length HM2.out, over_length HFT.out, HSZ.out]
  · exact ins_cells2 HXL.out HCL.out hcp (by omega) HTK.out
theorem hook_insQ : HookAt Tryz.prog 471 (hIns 2) := by
  obtain ⟨i, hi, hz, hsize, hby⟩ := info_parts infoBQ
  exact hins_at Tryz.underlying54 hi hz (by rw [hsize]; rfl) hsize (by rw [hby]; decide) (by rw [hby]; decide) insQ_end insQ_grow insQ_room
end Go.Proofs.YtkjdclpneaepkaaGreat
end
