/- Two records: the same? -/
import Derived.Test.YtdbgplnjppaimaaGreatRecAt
import Derived.Laws.StructEq
open Go Go.RowKit
namespace Go.Proofs.YtdbgplnjppaimaaGreat

def eqInts (a b : List Int) : Bool := decide (a.length = b.length) && allN a.length (fun i => a.getD i 0 == b.getD i 0)
def eqPut (p q : PutV) : Bool := p.q.toList == q.q.toList && p.b.toList == q.b.toList
def eqPuts (a b : List PutV) : Bool := decide (a.length = b.length) && allN a.length (fun i => eqPut (a.getD i default) (b.getD i default))
theorem str_eq {a b : ByteArray} : (a.toList == b.toList) = true ↔ a = b := by
  rw [beq_iff_eq, ByteArray.toList_eq, ByteArray.toList_eq]
  constructor
  · intro h
    obtain ⟨⟨x⟩⟩ := a
    obtain ⟨⟨y⟩⟩ := b
    simp only at h
    rw [h]
  · intro h; rw [h]
theorem eqPut_iff {p q : PutV} : eqPut p q = true ↔ p = q := by
  obtain ⟨a, b⟩ := p
  obtain ⟨c, d⟩ := q
  simp only [eqPut, Bool.and_eq_true, str_eq, PutV.mk.injEq]
theorem list_eq_of {α : Type} (d : α) {a b : List α} (hl : a.length = b.length) (h : ∀ i, i < a.length → a.getD i d = b.getD i d) : a = b := by
  apply List.ext_getElem hl
  intro i h1 h2
  have := h i h1
  rw [List.getD_eq_getElem?_getD, List.getD_eq_getElem?_getD, List.getElem?_eq_getElem h1, List.getElem?_eq_getElem h2] at this
  simpa using this
theorem eqInts_iff {a b : List Int} : eqInts a b = true ↔ a = b := by
  unfold eqInts
  rw [Bool.and_eq_true, decide_eq_true_eq, allN_iff]
  constructor
  · rintro ⟨h1, h2⟩
    exact list_eq_of 0 h1 (fun i hi => by simpa using h2 i hi)
  · rintro rfl
    exact ⟨rfl, fun i _ => by simp⟩
theorem eqPuts_iff {a b : List PutV} : eqPuts a b = true ↔ a = b := by
  unfold eqPuts
  rw [Bool.and_eq_true, decide_eq_true_eq, allN_iff]
  constructor
  · rintro ⟨h1, h2⟩
    exact list_eq_of default h1 (fun i hi => eqPut_iff.1 (h2 i hi))
  · rintro rfl
    exact ⟨rfl, fun i _ => eqPut_iff.2 rfl⟩
theorem lt_get {α : Type} (l : List α) (d : α) (i : Nat) (h : i < l.length) : l.getD i d = l[i] := by
  rw [List.getD_eq_getElem?_getD, List.getElem?_eq_getElem h, Option.getD_some]

theorem neq_put (a b c d : ByteArray) (W : World) : (Op.equalIn 10000 28 (.agg #[.string a, .string b]) (.agg #[.string c, .string d])).run Tryz.prog W = .ok (a.toList == c.toList && b.toList == d.toList) W := by
  have hS : Tryz.prog.underlying 28 = some (.struct (Tryz.prog.fieldsOf 28)) := by kernel_rfl
  have hp : Tryz.prog.stoodInHeld 28 = false := by kernel_rfl
  have u3 := Tryz.underlying9
  have a3 := Tryz.isAgg9
  have z3 := Tryz.sizeOf9
  rw [show (10000 : Nat) = 9999 + 1 from rfl, run_equalIn_agg W 9999 28 _ _ hS hp]
  simp only [Program.fieldsOf, Tryz.underlying28]
  go_simp
  cases h1 : (a.toList == c.toList) <;> cases h2 : (b.toList == d.toList) <;> simp_all

set_option maxHeartbeats 1600000 in
theorem kEqInts_any (aa : Option Addr) (cpa : Nat) (a : List Int) (ab : Option Addr) (cpb : Nat) (b : List Int) (w : World) (ha : SlI w aa cpa a) (hb : SlI w ab cpb b) :
    Calls Tryz.prog 96 #[.slice aa a.length cpa, .slice ab b.length cpb] w fun e w' => e = .returned (.bool (eqInts a b)) ∧ Keep NoF w w' := by
  have hl1 := ha.1
  have hl2 := ha.2.1
  have hl3 := hb.1
  have hl4 := hb.2.1
  unfold maxLen at hl2 hl4
  have HA := Lib.hid ha; have HB := Lib.hid hb
  clear ha hb
  by_cases hlen : a.length = b.length
  · have hF : allN a.length (fun i => a.getD i 0 == b.getD i 0) = false → eqInts a b = false := fun h => by rw [eqInts, h, Bool.and_false]
    have hT : allN a.length (fun i => a.getD i 0 == b.getD i 0) = true → eqInts a b = true := fun h => by rw [eqInts, h, Bool.and_true]; simp [hlen]
    have HF := Lib.hid hF; have HT := Lib.hid hT
    rw [← hlen] at hl3 ⊢
    have HL := Lib.hid hlen
    clear hF hT hlen
    go_enter Tryz.func96, Tryz.ntmps96
    go_wp2_with fail
    go_loopw [13] (fun iv wr => ∃ k : Nat, k ≤ a.length ∧ iv = .int .i64 k ∧ allN k (fun i => a.getD i 0 == b.getD i 0) = true ∧ Keep NoF w wr) (fun iv _ => a.length - (intOf iv).toNat)
    case atStart => exact ⟨0, Nat.zero_le _, rfl, rfl, Keep.refl _ _⟩
    case round =>
      obtain ⟨k, hk, rfl, hok, hK⟩ := hrel
      have HK := Lib.hid hok; have HKK := Lib.hid hK; clear hok hK
      by_cases hlt : k < a.length
      · have hlb : k < b.length := by have := HL.out; omega
        obtain ⟨ga, oa, rfl, ca⟩ := (HA.out.keep HKK.out (fun _ _ f => f)).2.2.2 k hlt
        obtain ⟨gb, ob, rfl, cb⟩ := (HB.out.keep HKK.out (fun _ _ f => f)).2.2.2 k hlb
        have ha := HA.out.2.2.1 _ (List.getElem_mem hlt)
        have hb := HB.out.2.2.1 _ (List.getElem_mem hlb)
        have da := lt_get a 0 k hlt
        have db := lt_get b 0 k hlb
        obtain ⟨x, hx⟩ : ∃ x, a[k] = x := ⟨_, rfl⟩
        obtain ⟨y, hy⟩ : ∃ y, b[k]'hlb = y := ⟨_, rfl⟩
        rw [hx] at ca ha da
        rw [hy] at cb hb db
        unfold InI64 at ha hb
        have DA := Lib.hid da; have DB := Lib.hid db
        clear hx hy da db
        by_cases hxy : x = y
        · subst hxy
          go_wp2_with fail
          go_region
          go_wp2_with fail
          go_roundw
          case rel =>
            refine ⟨k + 1, by omega, by go_num, ?_, HKK.out.drew⟩
            rw [allN_succ, HK.out, DA.out, DB.out]; simp
          case measure => simp [intOf]; omega
        · have hne : (x == y) = false := by simp; exact hxy
          have hne2 : (x != y) = true := by simp; exact hxy
          have hr : eqInts a b = false := HF.out (allN_false hlt (by rw [DA.out, DB.out]; exact hne))
          have HR := Lib.hid hr
          clear hr
          go_wp2_with fail
          go_region
          go_wp2_with fail
          go_ret
          exact ⟨by rw [HR.out]; rfl, HKK.out.drew⟩
      · obtain rfl : k = a.length := by omega
        have hr := HT.out HK.out
        have HR := Lib.hid hr
        clear hr
        go_wp2_with fail
        go_ret
        exact ⟨by rw [HR.out]; rfl, HKK.out⟩
  · have hr : eqInts a b = false := by unfold eqInts; simp [hlen]
    have h1 : ((a.length : Int) == b.length) = false := by simp; omega
    have h2 : ((a.length : Int) != b.length) = true := by simp; omega
    rw [hr]
    clear hr
    go_enter Tryz.func96, Tryz.ntmps96
    go_wp2_with fail
    go_ret
    exact ⟨rfl, Keep.refl _ _⟩

set_option maxHeartbeats 1600000 in
theorem kEqPuts_any (aa : Option Addr) (cpa : Nat) (a : List PutV) (ab : Option Addr) (cpb : Nat) (b : List PutV) (w : World) (ha : SlP w aa cpa a) (hb : SlP w ab cpb b) :
    Calls Tryz.prog 97 #[.slice aa a.length cpa, .slice ab b.length cpb] w fun e w' => e = .returned (.bool (eqPuts a b)) ∧ Keep NoF w w' := by
  have hl1 := ha.1
  have hl2 := ha.2.1
  have hl3 := hb.1
  have hl4 := hb.2.1
  unfold maxLen at hl2 hl4
  have HA := Lib.hid ha; have HB := Lib.hid hb
  clear ha hb
  by_cases hlen : a.length = b.length
  · have hF : allN a.length (fun i => eqPut (a.getD i default) (b.getD i default)) = false → eqPuts a b = false := fun h => by rw [eqPuts, h, Bool.and_false]
    have hT : allN a.length (fun i => eqPut (a.getD i default) (b.getD i default)) = true → eqPuts a b = true := fun h => by rw [eqPuts, h, Bool.and_true]; simp [hlen]
    have HF := Lib.hid hF; have HT := Lib.hid hT
    rw [← hlen] at hl3 ⊢
    have HL := Lib.hid hlen
    clear hF hT hlen
    go_enter Tryz.func97, Tryz.ntmps97
    go_wp2_with fail
    go_loopw [13] (fun iv wr => ∃ k : Nat, k ≤ a.length ∧ iv = .int .i64 k ∧ allN k (fun i => eqPut (a.getD i default) (b.getD i default)) = true ∧ Keep NoF w wr) (fun iv _ => a.length - (intOf iv).toNat)
    case atStart => exact ⟨0, Nat.zero_le _, rfl, rfl, Keep.refl _ _⟩
    case round =>
      obtain ⟨k, hk, rfl, hok, hK⟩ := hrel
      have HK := Lib.hid hok; have HKK := Lib.hid hK; clear hok hK
      by_cases hlt : k < a.length
      · have hlb : k < b.length := by have := HL.out; omega
        obtain ⟨ga, oa, rfl, ca, ca1⟩ := (HA.out.keep HKK.out (fun _ _ f => f)).2.2.2 k hlt
        obtain ⟨gb, ob, rfl, cb, cb1⟩ := (HB.out.keep HKK.out (fun _ _ f => f)).2.2.2 k hlb
        have da := lt_get a default k hlt
        have db := lt_get b default k hlb
        obtain ⟨x, hx⟩ : ∃ x, a[k] = x := ⟨_, rfl⟩
        obtain ⟨y, hy⟩ : ∃ y, b[k]'hlb = y := ⟨_, rfl⟩
        rw [hx] at ca ca1 da
        rw [hy] at cb cb1 db
        obtain ⟨xq, xb⟩ := x
        obtain ⟨yq, yb⟩ := y
        simp only at ca ca1 cb cb1
        have DA := Lib.hid da; have DB := Lib.hid db
        clear hx hy da db
        have heq := fun W => neq_put xq xb yq yb W
        obtain ⟨v1, hv1⟩ : ∃ v, (xq.toList == yq.toList) = v := ⟨_, rfl⟩
        obtain ⟨v2, hv2⟩ : ∃ v, (xb.toList == yb.toList) = v := ⟨_, rfl⟩
        have HP : Hid (eqPut ⟨xq, xb⟩ ⟨yq, yb⟩ = (v1 && v2)) := by rw [← hv1, ← hv2]; exact Lib.hid rfl
        rw [hv1, hv2] at heq
        cases v1
        · have hr : eqPuts a b = false := HF.out (allN_false hlt (by rw [DA.out, DB.out, HP.out]; rfl))
          have HR := Lib.hid hr
          clear hr
          go_wp2_with fail
          go_region
          go_wp2_with fail
          go_ret
          exact ⟨by rw [HR.out]; rfl, HKK.out.drew⟩
        · cases v2
          · have hr : eqPuts a b = false := HF.out (allN_false hlt (by rw [DA.out, DB.out, HP.out]; rfl))
            have HR := Lib.hid hr
            clear hr
            go_wp2_with fail
            go_region
            go_wp2_with fail
            go_ret
            exact ⟨by rw [HR.out]; rfl, HKK.out.drew⟩
          · go_wp2_with fail
            go_region
            go_wp2_with fail
            go_roundw
            case rel =>
              refine ⟨k + 1, by omega, by go_num, ?_, HKK.out.drew⟩
              rw [allN_succ, HK.out, DA.out, DB.out, HP.out]; rfl
            case measure => simp [intOf]; omega
      · obtain rfl : k = a.length := by omega
        have hr := HT.out HK.out
        have HR := Lib.hid hr
        clear hr
        go_wp2_with fail
        go_ret
        exact ⟨by rw [HR.out]; rfl, HKK.out⟩
  · have hr : eqPuts a b = false := by unfold eqPuts; simp [hlen]
    have h1 : ((a.length : Int) == b.length) = false := by simp; omega
    have h2 : ((a.length : Int) != b.length) = true := by simp; omega
    rw [hr]
    clear hr
    go_enter Tryz.func97, Tryz.ntmps97
    go_wp2_with fail
    go_ret
    exact ⟨rfl, Keep.refl _ _⟩

set_option maxHeartbeats 1600000 in
theorem rEqPuts_any (aa : Option Addr) (cpa : Nat) (a : List PutV) (ab : Option Addr) (cpb : Nat) (b : List PutV) (w : World) (ha : SlP w aa cpa a) (hb : SlP w ab cpb b) :
    Calls Tryz.prog 29 #[.slice aa a.length cpa, .slice ab b.length cpb] w fun e w' => e = .returned (.bool (eqPuts a b)) ∧ Keep NoF w w' := by
  have hl1 := ha.1
  have hl2 := ha.2.1
  have hl3 := hb.1
  have hl4 := hb.2.1
  unfold maxLen at hl2 hl4
  have HA := Lib.hid ha; have HB := Lib.hid hb
  clear ha hb
  by_cases hlen : a.length = b.length
  · have hF : allN a.length (fun i => eqPut (a.getD i default) (b.getD i default)) = false → eqPuts a b = false := fun h => by rw [eqPuts, h, Bool.and_false]
    have hT : allN a.length (fun i => eqPut (a.getD i default) (b.getD i default)) = true → eqPuts a b = true := fun h => by rw [eqPuts, h, Bool.and_true]; simp [hlen]
    have HF := Lib.hid hF; have HT := Lib.hid hT
    rw [← hlen] at hl3 ⊢
    have HL := Lib.hid hlen
    clear hF hT hlen
    go_enter Tryz.func29, Tryz.ntmps29
    go_wp2_with fail
    go_loopw [5] (fun iv wr => ∃ k : Nat, k ≤ a.length ∧ iv = .int .i64 k ∧ allN k (fun i => eqPut (a.getD i default) (b.getD i default)) = true ∧ Keep NoF w wr) (fun iv _ => a.length - (intOf iv).toNat)
    case atStart => exact ⟨0, Nat.zero_le _, rfl, rfl, Keep.refl _ _⟩
    case round =>
      obtain ⟨k, hk, rfl, hok, hK⟩ := hrel
      have HK := Lib.hid hok; have HKK := Lib.hid hK; clear hok hK
      by_cases hlt : k < a.length
      · have hlb : k < b.length := by have := HL.out; omega
        obtain ⟨ga, oa, rfl, ca, ca1⟩ := (HA.out.keep HKK.out (fun _ _ f => f)).2.2.2 k hlt
        obtain ⟨gb, ob, rfl, cb, cb1⟩ := (HB.out.keep HKK.out (fun _ _ f => f)).2.2.2 k hlb
        have da := lt_get a default k hlt
        have db := lt_get b default k hlb
        obtain ⟨x, hx⟩ : ∃ x, a[k] = x := ⟨_, rfl⟩
        obtain ⟨y, hy⟩ : ∃ y, b[k]'hlb = y := ⟨_, rfl⟩
        rw [hx] at ca ca1 da
        rw [hy] at cb cb1 db
        obtain ⟨xq, xb⟩ := x
        obtain ⟨yq, yb⟩ := y
        simp only at ca ca1 cb cb1
        have DA := Lib.hid da; have DB := Lib.hid db
        clear hx hy da db
        obtain ⟨v1, hv1⟩ : ∃ v, (xq.toList == yq.toList) = v := ⟨_, rfl⟩
        obtain ⟨v2, hv2⟩ : ∃ v, (xb.toList == yb.toList) = v := ⟨_, rfl⟩
        have HP : Hid (eqPut ⟨xq, xb⟩ ⟨yq, yb⟩ = (v1 && v2)) := by rw [← hv1, ← hv2]; exact Lib.hid rfl
        cases v1
        · have hr : eqPuts a b = false := HF.out (allN_false hlt (by rw [DA.out, DB.out, HP.out]; rfl))
          have HR := Lib.hid hr
          clear hr
          go_wp2_with fail
          go_region
          go_wp2_with fail
          go_ret
          exact ⟨by rw [HR.out]; rfl, HKK.out.drew⟩
        · cases v2
          · have hr : eqPuts a b = false := HF.out (allN_false hlt (by rw [DA.out, DB.out, HP.out]; rfl))
            have HR := Lib.hid hr
            clear hr
            go_wp2_with fail
            go_region
            go_wp2_with fail
            go_ret
            exact ⟨by rw [HR.out]; rfl, HKK.out.drew⟩
          · go_wp2_with fail
            go_region
            go_wp2_with fail
            go_roundw
            case rel =>
              refine ⟨k + 1, by omega, by go_num, ?_, HKK.out.drew⟩
              rw [allN_succ, HK.out, DA.out, DB.out, HP.out]; rfl
            case measure => simp [intOf]; omega
      · obtain rfl : k = a.length := by omega
        have hr := HT.out HK.out
        have HR := Lib.hid hr
        clear hr
        go_wp2_with fail
        go_ret
        exact ⟨by rw [HR.out]; rfl, HKK.out⟩
  · have hr : eqPuts a b = false := by unfold eqPuts; simp [hlen]
    have h1 : ((a.length : Int) == b.length) = false := by simp; omega
    have h2 : ((a.length : Int) != b.length) = true := by simp; omega
    rw [hr]
    clear hr
    go_enter Tryz.func29, Tryz.ntmps29
    go_wp2_with fail
    go_ret
    exact ⟨rfl, Keep.refl _ _⟩

def eqRec (r s : RecV) : Bool := (r.kind == s.kind) && (r.tid == s.tid) && (r.id == s.id) && (r.yes == s.yes) && eqInts r.parts s.parts && eqPuts r.puts s.puts
theorem eqRec_iff {r s : RecV} : eqRec r s = true ↔ r = s := by
  obtain ⟨k, t, i, y, ps, us⟩ := r
  obtain ⟨k', t', i', y', ps', us'⟩ := s
  simp only [eqRec, Bool.and_eq_true, beq_iff_eq, eqInts_iff, eqPuts_iff, RecV.mk.injEq, and_assoc]
theorem keep_al (w : World) (o : Obj) : Keep NoF w (w.alloc o) := (Keep.refl NoF w).alloc o
theorem old_cell (w : World) (o o2 : Obj) (j : Nat) : ((w.alloc o).alloc o2).cell? ⟨w.heap.size, j, none⟩ = (w.alloc o).cell? ⟨w.heap.size, j, none⟩ :=
  (keep_al (w.alloc o) o2).cell (p := ⟨w.heap.size, j, none⟩) (by simp) (fun f => f)

set_option maxHeartbeats 1600000 in
theorem keq_any (r s : RecV) (a4 : Option Addr) (c4 : Nat) (a5 : Option Addr) (c5 : Nat) (b4 : Option Addr) (d4 : Nat) (b5 : Option Addr) (d5 : Nat) (w : World) (h : RecAt w r a4 c4 a5 c5) (g : RecAt w s b4 d4 b5 d5) :
    Calls Tryz.prog 71 #[recVal r a4 c4 a5 c5, recVal s b4 d4 b5 d5] w fun e w' => e = .returned (.bool (eqRec r s)) ∧ Keep NoF w w' := by
  obtain ⟨k, t, i, y, ps, us⟩ := r
  obtain ⟨k', t', i', y', ps', us'⟩ := s
  unfold recVal
  have hci := fun W hk => kEqInts_any a4 c4 ps b4 d4 ps' W (h.parts.keep (w' := W) hk (fun _ _ f => f)) (g.parts.keep (w' := W) hk (fun _ _ f => f))
  have hcp := fun W hk => kEqPuts_any a5 c5 us b5 d5 us' W (h.puts.keep (w' := W) hk (fun _ _ f => f)) (g.puts.keep (w' := W) hk (fun _ _ f => f))
  obtain ⟨v1, hv1⟩ : ∃ v, (k == k') = v := ⟨_, rfl⟩
  obtain ⟨v2, hv2⟩ : ∃ v, (t == t') = v := ⟨_, rfl⟩
  obtain ⟨v3, hv3⟩ : ∃ v, (i == i') = v := ⟨_, rfl⟩
  obtain ⟨v4, hv4⟩ : ∃ v, (y == y') = v := ⟨_, rfl⟩
  obtain ⟨v5, hv5⟩ : ∃ v, eqInts ps ps' = v := ⟨_, rfl⟩
  obtain ⟨v6, hv6⟩ : ∃ v, eqPuts us us' = v := ⟨_, rfl⟩
  have hr : eqRec ⟨k, t, i, y, ps, us⟩ ⟨k', t', i', y', ps', us'⟩ = (v1 && v2 && v3 && v4 && v5 && v6) := by unfold eqRec; simp only [hv1, hv2, hv3, hv4, hv5, hv6]
  rw [hv5] at hci
  rw [hv6] at hcp
  rw [hr]
  have HCI := Lib.hid hci; have HCP := Lib.hid hcp
  clear hci hcp hr hv5 hv6 h g
  simp only
  have hee := ((keep_al w (.cells #[.int .i64 k, .int .i64 t, .int .i64 i, .bool y, .slice a4 ps.length c4, .slice a5 us.length c5] 95)).alloc (.cells #[.int .i64 k', .int .i64 t', .int .i64 i', .bool y', .slice b4 ps'.length d4, .slice b5 us'.length d5] 95))
  have KE := Lib.hid hee; clear hee
  cases v1
  case false =>
    go_enter Tryz.func71, Tryz.ntmps71
    go_wp2_with fail
    all_goals
      go_ret
      exact ⟨rfl, KE.out⟩
  cases v2
  case false =>
    go_enter Tryz.func71, Tryz.ntmps71
    go_wp2_with fail
    all_goals
      go_ret
      exact ⟨rfl, KE.out⟩
  cases v3
  case false =>
    go_enter Tryz.func71, Tryz.ntmps71
    go_wp2_with fail
    all_goals
      go_ret
      exact ⟨rfl, KE.out⟩
  cases v4
  case false =>
    go_enter Tryz.func71, Tryz.ntmps71
    go_wp2_with fail
    all_goals
      go_ret
      exact ⟨rfl, KE.out⟩
  go_enter Tryz.func71, Tryz.ntmps71
  go_wp2_with fail
  refine (HCI.out _ KE.out).mono ?_
  rintro e w2 ⟨rfl, hk⟩
  have d1 : w2.cell? ⟨w.heap.size, 5, none⟩ = some (.slice a5 us.length c5) := hk.cell' (v := .slice a5 us.length c5) (by rw [old_cell, cell_of_heap (heap_new _ _)]; rfl) (fun f => f)
  have d2 : w2.cell? ⟨w.heap.size + 1, 5, none⟩ = some (.slice b5 us'.length d5) := hk.cell' (v := .slice b5 us'.length d5) (by rw [show w.heap.size + 1 = (w.alloc (.cells #[.int .i64 k, .int .i64 t, .int .i64 i, .bool y, .slice a4 ps.length c4, .slice a5 us.length c5] 95)).heap.size by simp, cell_of_heap (heap_new _ _)]; rfl) (fun f => f)
  have K2 : Hid (Keep NoF w w2) := Lib.hid (KE.out.trans' hk)
  clear hk
  cases v5
  case false =>
    go_wp2_with fail
    go_ret
    exact ⟨rfl, K2.out⟩
  go_wp2_with fail
  refine (HCP.out _ K2.out).mono ?_
  rintro e w3 ⟨rfl, hk⟩
  have HK := Lib.hid hk; clear hk
  go_wp2_with fail
  go_ret
  exact ⟨by simp, K2.out.trans' HK.out⟩

end Go.Proofs.YtdbgplnjppaimaaGreat
