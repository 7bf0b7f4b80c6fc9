/- WireAll: the law returns true and changes nothing that was there. No conditions. -/
import Derived.Test.YtlabhbjampkhpaaGreatTells15
import Derived.Test.YtlabhbjampkhpaaGreatLawBase
import Derived.Test.YtlabhbjampkhpaaGreatRows
import Derived.WalkKit
import Derived.ProofKit
import Derived.OpenShut
import Derived.ShutString
import Derived.ChangeOld
import Derived.Below
namespace Go.Proofs.YtlabhbjampkhpaaGreat.wireAll
open Go Go.ChangeShapes Go.WideShapes Go.ChangeAt Go.RowKit
open Go.ChangeMaps (open_string shut_string)

theorem own : ownKnob Tryz.prog.godebug = none := by kernel_rfl
theorem laidOut : laidOutB Tryz.prog = true := by kernel_rfl

open Go.Proofs Go.RowKit
set_option maxRecDepth 40000 in
theorem open_arg0 {H : Type} {enc : TypeId × Value → H} {r : Reach} {b0 : Nat} {v : Value} {d : DataW H} {p : List MemPlace} (W : World) (_base : Nat)
    (hv : Value.okWide Tryz.prog W r b0 23 v) (h : DataW.Trod enc Tryz.prog W 0 (fun _ => true) true 23 v d p) : ∃ z : PackV, v = packVal z ∧ z.Ok := open_packet hv h
set_option maxRecDepth 40000 in
theorem open_arg1 {H : Type} {enc : TypeId × Value → H} {r : Reach} {b0 : Nat} {v : Value} {d : DataW H} {p : List MemPlace} (W : World) (_base : Nat)
    (hv : Value.okWide Tryz.prog W r b0 23 v) (h : DataW.Trod enc Tryz.prog W 0 (fun _ => true) true 23 v d p) : ∃ z : PackV, v = packVal z ∧ z.Ok := open_packet hv h
theorem neSl (a : Option Addr) (n cp : Nat) (w : World) : (binOp .neq 24 (.slice a n cp) (.slice none 0 0)).run Tryz.prog w = .ok (.bool (!a.isNone)) w := run_neq_slice_nil_any w 24 5 a n cp 0 0 Tryz.underlying24
theorem own_some {w : World} {v : Value} {l : List UInt8} {n : Nat} (h : OwnB w v l) (hn : l.length = n) (h0 : 0 < n) : ∃ g cp, v = .slice (some ⟨g, 0, none⟩) n cp ∧ SlB w (some ⟨g, 0, none⟩) cp l ∧ g < w.heap.size := by
  subst hn
  have hs := h.slb
  rcases h.2 with ⟨rfl, e⟩ | ⟨g, cap, cur, rfl, _⟩
  · omega
  · obtain ⟨ao, cp, e, hsl, _⟩ := hs
    injection e with e1 e2 e3
    subst e1
    subst e3
    exact ⟨g, cap, rfl, hsl, h.lt g rfl⟩
theorem cmp_wire {p q : PackV} (hp : GoodP p) (hq : GoodP q) : ((bstr (wireB p)).toList == (bstr (wireB q)).toList) = eqP p q := by
  rw [Bool.eq_iff_iff, str_eq, eqP_iff]
  constructor
  · intro h; exact encP_inj hp hq h
  · intro h; rw [h]
theorem ifs_eq {α : Type} (p q : PackV) (a b : α) : (if p.kind = q.kind then if p.from_ = q.from_ then if p.to = q.to then if p.tid = q.tid then if p.n = q.n then if p.yes = q.yes then a else b else b else b else b else b else b) = if eqP p q = true then a else b := by
  unfold eqP
  by_cases h0 : p.kind = q.kind
  · by_cases h1 : p.from_ = q.from_
    · by_cases h2 : p.to = q.to
      · by_cases h3 : p.tid = q.tid
        · by_cases h4 : p.n = q.n
          · by_cases h5 : p.yes = q.yes
            · simp [h0, h1, h2, h3, h4, h5]
            · simp [h0, h1, h2, h3, h4, h5]
          · simp [h0, h1, h2, h3, h4]
        · simp [h0, h1, h2, h3]
      · simp [h0, h1, h2]
    · simp [h0, h1]
  · simp [h0]
set_option maxHeartbeats 16000000 in
set_option maxRecDepth 8000 in
theorem walk (w : World) (P : PackV) (hp : P.Ok) (Q : PackV) (hq : Q.Ok) (a0 : Option Addr) (len0 cap0 : Nat) (z0 : List Int) (h0 : IsRow .u8 w a0 len0 cap0 z0) :
    Calls Tryz.prog 3 #[packVal P, packVal Q, .slice a0 len0 cap0] w fun e w' => e = .returned (.bool true) ∧ Keep NoF w w' := by
  obtain ⟨l0, hl0, s0⟩ := h0.slb
  have S0 := Lib.hid s0; have E0 := Lib.hid hl0
  have HOK := Lib.hid hp; have HOK2 := Lib.hid hq
  clear s0 hl0 h0 hp hq
  obtain ⟨k, f, t, d, n, y, hP⟩ : ∃ k f t d n y, P = (⟨k, f, t, d, n, y⟩ : PackV) := ⟨_, _, _, _, _, _, rfl⟩
  obtain ⟨qk, qf, qt, qd, qn, qy, hQ⟩ : ∃ k f t d n y, Q = (⟨k, f, t, d, n, y⟩ : PackV) := ⟨_, _, _, _, _, _, rfl⟩
  have HHP := Lib.hid hP; have HHQ := Lib.hid hQ
  have HPV : Hid (packVal P = .agg #[.int .i64 k, .int .i64 f, .int .i64 t, .int .i64 d, .int .i64 n, .bool y]) := by rw [HHP.out]; exact Lib.hid rfl
  have HQV : Hid (packVal Q = .agg #[.int .i64 qk, .int .i64 qf, .int .i64 qt, .int .i64 qd, .int .i64 qn, .bool qy]) := by rw [HHQ.out]; exact Lib.hid rfl
  rw [HPV.out, HQV.out]
  have HRK : Hid (∀ W, Calls Tryz.prog 16 #[.agg #[.int .i64 k, .int .i64 f, .int .i64 t, .int .i64 d, .int .i64 n, .bool y]] W fun e w' => e = .returned (.bool (packB P)) ∧ Keep NoF W w') := Lib.hid fun W => by rw [← HPV.out]; exact rpacket_any P W HOK.out
  clear hP hQ
  go_enter Tryz.func3, Tryz.ntmps3
  obtain ⟨B, hhB⟩ : ∃ B, w.heap.size = B := ⟨_, rfl⟩
  obtain ⟨C, hhC⟩ : ∃ C, B + 1 = C := ⟨_, rfl⟩
  go_upto_region 1 with fail
  have hb := heap_new w (.cells #[.int .i64 k, .int .i64 f, .int .i64 t, .int .i64 d, .int .i64 n, .bool y] 23 (0, 0))
  have hk1 := keep_alloc w (.cells #[.int .i64 k, .int .i64 f, .int .i64 t, .int .i64 d, .int .i64 n, .bool y] 23 (0, 0))
  have hs1 := size_alloc w (.cells #[.int .i64 k, .int .i64 f, .int .i64 t, .int .i64 d, .int .i64 n, .bool y] 23 (0, 0))
  have hc := heap_new (w.alloc (.cells #[.int .i64 k, .int .i64 f, .int .i64 t, .int .i64 d, .int .i64 n, .bool y] 23 (0, 0))) (.cells #[.int .i64 qk, .int .i64 qf, .int .i64 qt, .int .i64 qd, .int .i64 qn, .bool qy] 23 (0, 0))
  have hk2 := keep_alloc (w.alloc (.cells #[.int .i64 k, .int .i64 f, .int .i64 t, .int .i64 d, .int .i64 n, .bool y] 23 (0, 0))) (.cells #[.int .i64 qk, .int .i64 qf, .int .i64 qt, .int .i64 qd, .int .i64 qn, .bool qy] 23 (0, 0))
  have hb2 : ((w.alloc (.cells #[.int .i64 k, .int .i64 f, .int .i64 t, .int .i64 d, .int .i64 n, .bool y] 23 (0, 0))).alloc (.cells #[.int .i64 qk, .int .i64 qf, .int .i64 qt, .int .i64 qd, .int .i64 qn, .bool qy] 23 (0, 0))).heap[w.heap.size]? = some (.cells #[.int .i64 k, .int .i64 f, .int .i64 t, .int .i64 d, .int .i64 n, .bool y] 23 (0, 0)) := by
    rw [hk2.block _ (lt_of_heap hb) (fun f => f)]; exact hb
  rw [hs1, hhB, hhC] at hc
  rw [hhB] at hb2
  have K0 := Lib.hid (hk1.trans' hk2)
  show Code.wp _ _ _ _ ((w.alloc (.cells #[.int .i64 k, .int .i64 f, .int .i64 t, .int .i64 d, .int .i64 n, .bool y] 23 (0, 0))).alloc (.cells #[.int .i64 qk, .int .i64 qf, .int .i64 qt, .int .i64 qd, .int .i64 qn, .bool qy] 23 (0, 0)))
  generalize (w.alloc (.cells #[.int .i64 k, .int .i64 f, .int .i64 t, .int .i64 d, .int .i64 n, .bool y] 23 (0, 0))).alloc (.cells #[.int .i64 qk, .int .i64 qf, .int .i64 qt, .int .i64 qd, .int .i64 qn, .bool qy] 23 (0, 0)) = W0 at hb2 hc K0 ⊢
  (try rw [hhB])
  (try rw [hhC])
  have HRP := Lib.hid hb2; have HRQ := Lib.hid hc
  clear hb hb2 hc hk1 hk2 hs1 hhB hhC
  go_wp2_with fail
  refine (begun15_any W0).mono ?_
  rintro e w1 ⟨rfl, hk⟩
  have K1 := Lib.hid hk; clear hk
  go_wp2_with fail
  refine (short_at a0 len0 cap0 l0 40 w1 (S0.out.keep (K0.out.trans' K1.out) (fun _ _ f => f)) E0.out (by decide) (by decide)).mono ?_
  rintro e W3 ⟨vs, rfl, hO, hk, hf⟩
  have KW := Lib.hid (K1.out.trans' hk)
  generalize l0.take (Int.toNat 40) = ls at hO
  obtain ⟨aos, cps, rfl, sls, bos⟩ := hO.slb
  have HTL : Hid (∀ W, Keep NoF W3 W → Calls Tryz.prog 17 #[.slice aos ls.length cps] W fun e w' => e = .returned (.bool true) ∧ Keep NoF W w') := Lib.hid fun W hW => tells_any aos ls.length cps ls W (sls.keep hW (fun _ _ f => f)) rfl (fun g hg => Nat.lt_of_lt_of_le (hO.lt g (by rw [← bos]; exact hg)) hW.size)
  have K3 : Hid (Keep NoF w W3) := Lib.hid (K0.out.trans' KW.out)
  generalize ls.length = ms at HTL ⊢
  have HC : Hid (∀ W, Keep NoF W3 W → (W.cell? ⟨B, 0, none⟩ = some (.int .i64 k) ∧ W.cell? ⟨B, 1, none⟩ = some (.int .i64 f) ∧ W.cell? ⟨B, 2, none⟩ = some (.int .i64 t) ∧ W.cell? ⟨B, 3, none⟩ = some (.int .i64 d) ∧ W.cell? ⟨B, 4, none⟩ = some (.int .i64 n) ∧ W.cell? ⟨B, 5, none⟩ = some (.bool y)) ∧ (W.cell? ⟨C, 0, none⟩ = some (.int .i64 qk) ∧ W.cell? ⟨C, 1, none⟩ = some (.int .i64 qf) ∧ W.cell? ⟨C, 2, none⟩ = some (.int .i64 qt) ∧ W.cell? ⟨C, 3, none⟩ = some (.int .i64 qd) ∧ W.cell? ⟨C, 4, none⟩ = some (.int .i64 qn) ∧ W.cell? ⟨C, 5, none⟩ = some (.bool qy))) := Lib.hid fun W hW => by
    have e1 := ((KW.out.trans' hW).block B (lt_of_heap HRP.out) (fun f => f)).trans HRP.out
    have e2 := ((KW.out.trans' hW).block C (lt_of_heap HRQ.out) (fun f => f)).trans HRQ.out
    refine ⟨⟨?_, ?_, ?_, ?_, ?_, ?_⟩, ⟨?_, ?_, ?_, ?_, ?_, ?_⟩⟩
    all_goals (first | (rw [cell_of_heap e1]; rfl) | (rw [cell_of_heap e2]; rfl))
  have hk0 := HC.out W3.drew (Keep.refl NoF W3).drew
  clear hO hk hf sls bos
  go_upto_region 5 with fail
  rcases hbp : packB P with _ | _
  · have HPE := Lib.hid (fun W => wenc_bad P W HOK.out hbp)
    rw [HPV.out] at HPE
    have hrk := HRK.out
    rw [hbp] at hrk
    have HRK2 := Lib.hid hrk
    clear hrk
    rcases hbq : packB Q with _ | _
    · have HQE := Lib.hid (fun W => wenc_bad Q W HOK2.out hbq)
      rw [HQV.out] at HQE
      clear hbq
      refine wp_region_noPanic ?_
      refine wp_region_held_drew (S := (fun W' : World => (W'.cell? ⟨B, 0, none⟩ = some (.int .i64 k) ∧ W'.cell? ⟨B, 1, none⟩ = some (.int .i64 f) ∧ W'.cell? ⟨B, 2, none⟩ = some (.int .i64 t) ∧ W'.cell? ⟨B, 3, none⟩ = some (.int .i64 d) ∧ W'.cell? ⟨B, 4, none⟩ = some (.int .i64 n) ∧ W'.cell? ⟨B, 5, none⟩ = some (.bool y)) ∧ (W'.cell? ⟨C, 0, none⟩ = some (.int .i64 qk) ∧ W'.cell? ⟨C, 1, none⟩ = some (.int .i64 qf) ∧ W'.cell? ⟨C, 2, none⟩ = some (.int .i64 qt) ∧ W'.cell? ⟨C, 3, none⟩ = some (.int .i64 qd) ∧ W'.cell? ⟨C, 4, none⟩ = some (.int .i64 qn) ∧ W'.cell? ⟨C, 5, none⟩ = some (.bool qy)))) (by kernel_rfl) (hk0) (fun hHeld => ?_)
      refine wpAnyH_take (i := 0) (oi := ?oFF0) (v := ?vFF0) ?hiFF0 (by kernel_rfl) (by kernel_rfl) (by kernel_rfl) (fun _ _ _ h => h) (Or.inl ⟨?wFF0, ?yFF0⟩) (by assumption) ?rFF0
      case hiFF0 => (simp only [List.getElem?_toArray, List.getElem?_cons_zero]; try rfl)
      case wFF0 => rfl
      case yFF0 => (intro w hSw; (try dsimp only at hSw); go_simp; (try with_reducible rfl))
      (try simp only [Act.put, List.setIfInBounds_toArray, List.set_cons_zero, List.set_cons_succ])
      refine wpAnyH_take (i := 2) (oi := ?oFF2) (v := ?vFF2) ?hiFF2 (by kernel_rfl) (by kernel_rfl) (by kernel_rfl) (fun _ _ _ h => h) (Or.inl ⟨?wFF2, ?yFF2⟩) (by assumption) ?rFF2
      case hiFF2 => (simp only [List.getElem?_toArray, List.getElem?_cons_succ, List.getElem?_cons_zero]; try rfl)
      case wFF2 => rfl
      case yFF2 => (intro w hSw; (try dsimp only at hSw); go_simp; (try with_reducible rfl))
      (try simp only [Act.put, List.setIfInBounds_toArray, List.set_cons_zero, List.set_cons_succ])
      refine wpAnyH_ready (rs := [1]) (by kernel_rfl) (by simp) ?_
      refine AllReadyH.cons (o := ?oFF1) ?hiFF1 (fun K hK => ?_) AllReadyH.nil
      case hiFF1 => (simp only [List.getElem?_toArray, List.getElem?_cons_succ, List.getElem?_cons_zero]; try rfl)
      go_simp
      (go_at_call 15; refine (HPE.out _).mono ?_; rintro e wA ⟨rfl, hkwA⟩; have hkABwA := hkwA; have KwA : Hid (Keep NoF W3 wA) := Lib.hid (hkwA.of_drew); clear hkwA)
      go_wp2_with fail
      refine hK.out _ _ (HC.out _ KwA.out) (fun hHeld => ?_)
      clear hK K
      (try simp only [Act.put, List.setIfInBounds_toArray, List.set_cons_zero, List.set_cons_succ])
      refine wpAnyH_ready (rs := [3]) (by kernel_rfl) (by simp) ?_
      refine AllReadyH.cons (o := ?oFF3) ?hiFF3 (fun K hK => ?_) AllReadyH.nil
      case hiFF3 => (simp only [List.getElem?_toArray, List.getElem?_cons_succ, List.getElem?_cons_zero]; try rfl)
      go_simp
      (go_at_call 15; refine (HQE.out _).mono ?_; rintro e wB ⟨rfl, hkwB⟩; have hkABwB := hkwB; have KwB : Hid (Keep NoF W3 wB) := Lib.hid (KwA.out.trans' hkwB); clear hkwB)
      go_wp2_with fail
      refine hK.out _ _ (HC.out _ KwB.out) (fun hHeld => ?_)
      clear hK K
      (try simp only [Act.put, List.setIfInBounds_toArray, List.set_cons_zero, List.set_cons_succ])
      refine wpAnyH_take (i := 4) (oi := ?oFF4) (v := ?vFF4) ?hiFF4 (by kernel_rfl) (by kernel_rfl) (by kernel_rfl) (fun _ _ _ h => h) (Or.inl ⟨?wFF4, ?yFF4⟩) (by assumption) ?rFF4
      case hiFF4 => (simp only [List.getElem?_toArray, List.getElem?_cons_succ, List.getElem?_cons_zero]; try rfl)
      case wFF4 => rfl
      case yFF4 => (intro w hSw; (try dsimp only at hSw); go_simp; (try with_reducible rfl))
      (try simp only [Act.put, List.setIfInBounds_toArray, List.set_cons_zero, List.set_cons_succ])
      refine wpAnyH_take (i := 5) (oi := ?oFF5) (v := ?vFF5) ?hiFF5 (by kernel_rfl) (by kernel_rfl) (by kernel_rfl) (fun _ _ _ h => h) (Or.inl ⟨?wFF5, ?yFF5⟩) (by assumption) ?rFF5
      case hiFF5 => (simp only [List.getElem?_toArray, List.getElem?_cons_succ, List.getElem?_cons_zero]; try rfl)
      case wFF5 => rfl
      case yFF5 => (intro w hSw; (try dsimp only at hSw); go_simp; (try with_reducible rfl))
      (try simp only [Act.put, List.setIfInBounds_toArray, List.set_cons_zero, List.set_cons_succ])
      refine wpAnyH_done (by kernel_rfl) ?_ _
      refine NoPanic.normal ?_
      have e8 := fun W => eqSl none 0 0 W
      have n8 := fun W => neSl none 0 0 W
      simp only [Option.isNone_none] at e8
      simp only [Option.isNone_none, Bool.not_true] at n8
      obtain ⟨⟨b0, b1, b2, b3, b4, b5⟩, _⟩ := HC.out wB KwB.out
      go_wp2_with fail
      refine (HRK2.out wB).mono ?_
      rintro e wC ⟨rfl, hkC⟩
      have KwC := Lib.hid (KwB.out.trans' hkC)
      have KBC := Lib.hid hkC
      clear hkC b0 b1 b2 b3 b4 b5
      go_wp2_with fail
      refine (HTL.out wC KwC.out).mono ?_
      rintro e wD ⟨rfl, hkD⟩
      have KwD := Lib.hid (KwC.out.trans' hkD)
      have KBD := Lib.hid (KBC.out.trans' hkD)
      clear hkD
      go_wp2_with fail
      go_ret
      exact ⟨rfl, K3.out.trans' KwD.out⟩
    · have HQE := Lib.hid (fun W => wenc_ok Q W HOK2.out hbq)
      rw [HQV.out] at HQE
      obtain ⟨A2, hA2⟩ : ∃ A, wireB Q = A := ⟨_, rfl⟩
      have HQL : Hid (A2.length = 21) := Lib.hid (by rw [← hA2]; exact wireB_length Q)
      rw [hA2] at HQE
      have HA2 := Lib.hid hA2
      clear hA2
      clear hbq
      refine wp_region_noPanic ?_
      refine wp_region_held_drew (S := (fun W' : World => (W'.cell? ⟨B, 0, none⟩ = some (.int .i64 k) ∧ W'.cell? ⟨B, 1, none⟩ = some (.int .i64 f) ∧ W'.cell? ⟨B, 2, none⟩ = some (.int .i64 t) ∧ W'.cell? ⟨B, 3, none⟩ = some (.int .i64 d) ∧ W'.cell? ⟨B, 4, none⟩ = some (.int .i64 n) ∧ W'.cell? ⟨B, 5, none⟩ = some (.bool y)) ∧ (W'.cell? ⟨C, 0, none⟩ = some (.int .i64 qk) ∧ W'.cell? ⟨C, 1, none⟩ = some (.int .i64 qf) ∧ W'.cell? ⟨C, 2, none⟩ = some (.int .i64 qt) ∧ W'.cell? ⟨C, 3, none⟩ = some (.int .i64 qd) ∧ W'.cell? ⟨C, 4, none⟩ = some (.int .i64 qn) ∧ W'.cell? ⟨C, 5, none⟩ = some (.bool qy)))) (by kernel_rfl) (hk0) (fun hHeld => ?_)
      refine wpAnyH_take (i := 0) (oi := ?oFT0) (v := ?vFT0) ?hiFT0 (by kernel_rfl) (by kernel_rfl) (by kernel_rfl) (fun _ _ _ h => h) (Or.inl ⟨?wFT0, ?yFT0⟩) (by assumption) ?rFT0
      case hiFT0 => (simp only [List.getElem?_toArray, List.getElem?_cons_zero]; try rfl)
      case wFT0 => rfl
      case yFT0 => (intro w hSw; (try dsimp only at hSw); go_simp; (try with_reducible rfl))
      (try simp only [Act.put, List.setIfInBounds_toArray, List.set_cons_zero, List.set_cons_succ])
      refine wpAnyH_take (i := 2) (oi := ?oFT2) (v := ?vFT2) ?hiFT2 (by kernel_rfl) (by kernel_rfl) (by kernel_rfl) (fun _ _ _ h => h) (Or.inl ⟨?wFT2, ?yFT2⟩) (by assumption) ?rFT2
      case hiFT2 => (simp only [List.getElem?_toArray, List.getElem?_cons_succ, List.getElem?_cons_zero]; try rfl)
      case wFT2 => rfl
      case yFT2 => (intro w hSw; (try dsimp only at hSw); go_simp; (try with_reducible rfl))
      (try simp only [Act.put, List.setIfInBounds_toArray, List.set_cons_zero, List.set_cons_succ])
      refine wpAnyH_ready (rs := [1]) (by kernel_rfl) (by simp) ?_
      refine AllReadyH.cons (o := ?oFT1) ?hiFT1 (fun K hK => ?_) AllReadyH.nil
      case hiFT1 => (simp only [List.getElem?_toArray, List.getElem?_cons_succ, List.getElem?_cons_zero]; try rfl)
      go_simp
      (go_at_call 15; refine (HPE.out _).mono ?_; rintro e wA ⟨rfl, hkwA⟩; have hkABwA := hkwA; have KwA : Hid (Keep NoF W3 wA) := Lib.hid (hkwA.of_drew); clear hkwA)
      go_wp2_with fail
      refine hK.out _ _ (HC.out _ KwA.out) (fun hHeld => ?_)
      clear hK K
      (try simp only [Act.put, List.setIfInBounds_toArray, List.set_cons_zero, List.set_cons_succ])
      refine wpAnyH_ready (rs := [3]) (by kernel_rfl) (by simp) ?_
      refine AllReadyH.cons (o := ?oFT3) ?hiFT3 (fun K hK => ?_) AllReadyH.nil
      case hiFT3 => (simp only [List.getElem?_toArray, List.getElem?_cons_succ, List.getElem?_cons_zero]; try rfl)
      go_simp
      (go_at_call 15; refine (HQE.out _).mono ?_; rintro e wB ⟨vwB, rfl, hvwB, hkwB, _⟩; have hkABwB := hkwB; have KwB : Hid (Keep NoF W3 wB) := Lib.hid (KwA.out.trans' hkwB); obtain ⟨gQ, cpQ, rfl, hsQ, hlQ⟩ := own_some hvwB HQL.out (by decide); have HSQ := Lib.hid hsQ; have HLQ := Lib.hid hlQ; clear hkwB hvwB hsQ hlQ)
      go_wp2_with fail
      refine hK.out _ _ (HC.out _ KwB.out) (fun hHeld => ?_)
      clear hK K
      (try simp only [Act.put, List.setIfInBounds_toArray, List.set_cons_zero, List.set_cons_succ])
      refine wpAnyH_take (i := 4) (oi := ?oFT4) (v := ?vFT4) ?hiFT4 (by kernel_rfl) (by kernel_rfl) (by kernel_rfl) (fun _ _ _ h => h) (Or.inl ⟨?wFT4, ?yFT4⟩) (by assumption) ?rFT4
      case hiFT4 => (simp only [List.getElem?_toArray, List.getElem?_cons_succ, List.getElem?_cons_zero]; try rfl)
      case wFT4 => rfl
      case yFT4 => (intro w hSw; (try dsimp only at hSw); go_simp; (try with_reducible rfl))
      (try simp only [Act.put, List.setIfInBounds_toArray, List.set_cons_zero, List.set_cons_succ])
      refine wpAnyH_take (i := 5) (oi := ?oFT5) (v := ?vFT5) ?hiFT5 (by kernel_rfl) (by kernel_rfl) (by kernel_rfl) (fun _ _ _ h => h) (Or.inl ⟨?wFT5, ?yFT5⟩) (by assumption) ?rFT5
      case hiFT5 => (simp only [List.getElem?_toArray, List.getElem?_cons_succ, List.getElem?_cons_zero]; try rfl)
      case wFT5 => rfl
      case yFT5 => (intro w hSw; (try dsimp only at hSw); go_simp; (try with_reducible rfl))
      (try simp only [Act.put, List.setIfInBounds_toArray, List.set_cons_zero, List.set_cons_succ])
      refine wpAnyH_done (by kernel_rfl) ?_ _
      refine NoPanic.normal ?_
      have e8 := fun W => eqSl none 0 0 W
      have n8 := fun W => neSl none 0 0 W
      simp only [Option.isNone_none] at e8
      simp only [Option.isNone_none, Bool.not_true] at n8
      obtain ⟨⟨b0, b1, b2, b3, b4, b5⟩, _⟩ := HC.out wB KwB.out
      go_wp2_with fail
      refine (HRK2.out wB).mono ?_
      rintro e wC ⟨rfl, hkC⟩
      have KwC := Lib.hid (KwB.out.trans' hkC)
      have KBC := Lib.hid hkC
      clear hkC b0 b1 b2 b3 b4 b5
      go_wp2_with fail
      refine (HTL.out wC KwC.out).mono ?_
      rintro e wD ⟨rfl, hkD⟩
      have KwD := Lib.hid (KwC.out.trans' hkD)
      have KBD := Lib.hid (KBC.out.trans' hkD)
      clear hkD
      go_wp2_with fail
      go_ret
      exact ⟨rfl, K3.out.trans' KwD.out⟩
  · have HPE := Lib.hid (fun W => wenc_ok P W HOK.out hbp)
    rw [HPV.out] at HPE
    have hrk := HRK.out
    rw [hbp] at hrk
    have HRK2 := Lib.hid hrk
    have hdw := dec_wire P HOK.out hbp
    have hby := fun W => bytes15_any P W
    rw [HPV.out] at hby
    obtain ⟨A, hA⟩ : ∃ A, wireB P = A := ⟨_, rfl⟩
    have HPL : Hid (A.length = 21) := Lib.hid (by rw [← hA]; exact wireB_length P)
    rw [hA] at HPE hdw hby
    have HDW := Lib.hid hdw; have HBY := Lib.hid hby
    have HA := Lib.hid hA
    clear hA hdw hby
    clear hrk
    rcases hbq : packB Q with _ | _
    · have HQE := Lib.hid (fun W => wenc_bad Q W HOK2.out hbq)
      rw [HQV.out] at HQE
      clear hbq
      refine wp_region_noPanic ?_
      refine wp_region_held_drew (S := (fun W' : World => (W'.cell? ⟨B, 0, none⟩ = some (.int .i64 k) ∧ W'.cell? ⟨B, 1, none⟩ = some (.int .i64 f) ∧ W'.cell? ⟨B, 2, none⟩ = some (.int .i64 t) ∧ W'.cell? ⟨B, 3, none⟩ = some (.int .i64 d) ∧ W'.cell? ⟨B, 4, none⟩ = some (.int .i64 n) ∧ W'.cell? ⟨B, 5, none⟩ = some (.bool y)) ∧ (W'.cell? ⟨C, 0, none⟩ = some (.int .i64 qk) ∧ W'.cell? ⟨C, 1, none⟩ = some (.int .i64 qf) ∧ W'.cell? ⟨C, 2, none⟩ = some (.int .i64 qt) ∧ W'.cell? ⟨C, 3, none⟩ = some (.int .i64 qd) ∧ W'.cell? ⟨C, 4, none⟩ = some (.int .i64 qn) ∧ W'.cell? ⟨C, 5, none⟩ = some (.bool qy)))) (by kernel_rfl) (hk0) (fun hHeld => ?_)
      refine wpAnyH_take (i := 0) (oi := ?oTF0) (v := ?vTF0) ?hiTF0 (by kernel_rfl) (by kernel_rfl) (by kernel_rfl) (fun _ _ _ h => h) (Or.inl ⟨?wTF0, ?yTF0⟩) (by assumption) ?rTF0
      case hiTF0 => (simp only [List.getElem?_toArray, List.getElem?_cons_zero]; try rfl)
      case wTF0 => rfl
      case yTF0 => (intro w hSw; (try dsimp only at hSw); go_simp; (try with_reducible rfl))
      (try simp only [Act.put, List.setIfInBounds_toArray, List.set_cons_zero, List.set_cons_succ])
      refine wpAnyH_take (i := 2) (oi := ?oTF2) (v := ?vTF2) ?hiTF2 (by kernel_rfl) (by kernel_rfl) (by kernel_rfl) (fun _ _ _ h => h) (Or.inl ⟨?wTF2, ?yTF2⟩) (by assumption) ?rTF2
      case hiTF2 => (simp only [List.getElem?_toArray, List.getElem?_cons_succ, List.getElem?_cons_zero]; try rfl)
      case wTF2 => rfl
      case yTF2 => (intro w hSw; (try dsimp only at hSw); go_simp; (try with_reducible rfl))
      (try simp only [Act.put, List.setIfInBounds_toArray, List.set_cons_zero, List.set_cons_succ])
      refine wpAnyH_ready (rs := [1]) (by kernel_rfl) (by simp) ?_
      refine AllReadyH.cons (o := ?oTF1) ?hiTF1 (fun K hK => ?_) AllReadyH.nil
      case hiTF1 => (simp only [List.getElem?_toArray, List.getElem?_cons_succ, List.getElem?_cons_zero]; try rfl)
      go_simp
      (go_at_call 15; refine (HPE.out _).mono ?_; rintro e wA ⟨vwA, rfl, hvwA, hkwA, _⟩; have hkABwA := hkwA; have KwA : Hid (Keep NoF W3 wA) := Lib.hid (hkwA.of_drew); obtain ⟨gP, cpP, rfl, hsP, hlP⟩ := own_some hvwA HPL.out (by decide); have HSP := Lib.hid hsP; have HLP := Lib.hid hlP; clear hkwA hvwA hsP hlP)
      go_wp2_with fail
      refine hK.out _ _ (HC.out _ KwA.out) (fun hHeld => ?_)
      clear hK K
      (try simp only [Act.put, List.setIfInBounds_toArray, List.set_cons_zero, List.set_cons_succ])
      refine wpAnyH_ready (rs := [3]) (by kernel_rfl) (by simp) ?_
      refine AllReadyH.cons (o := ?oTF3) ?hiTF3 (fun K hK => ?_) AllReadyH.nil
      case hiTF3 => (simp only [List.getElem?_toArray, List.getElem?_cons_succ, List.getElem?_cons_zero]; try rfl)
      go_simp
      (go_at_call 15; refine (HQE.out _).mono ?_; rintro e wB ⟨rfl, hkwB⟩; have hkABwB := hkwB; have KwB : Hid (Keep NoF W3 wB) := Lib.hid (KwA.out.trans' hkwB); clear hkwB)
      go_wp2_with fail
      refine hK.out _ _ (HC.out _ KwB.out) (fun hHeld => ?_)
      clear hK K
      (try simp only [Act.put, List.setIfInBounds_toArray, List.set_cons_zero, List.set_cons_succ])
      refine wpAnyH_take (i := 4) (oi := ?oTF4) (v := ?vTF4) ?hiTF4 (by kernel_rfl) (by kernel_rfl) (by kernel_rfl) (fun _ _ _ h => h) (Or.inl ⟨?wTF4, ?yTF4⟩) (by assumption) ?rTF4
      case hiTF4 => (simp only [List.getElem?_toArray, List.getElem?_cons_succ, List.getElem?_cons_zero]; try rfl)
      case wTF4 => rfl
      case yTF4 => (intro w hSw; (try dsimp only at hSw); go_simp; (try with_reducible rfl))
      (try simp only [Act.put, List.setIfInBounds_toArray, List.set_cons_zero, List.set_cons_succ])
      refine wpAnyH_take (i := 5) (oi := ?oTF5) (v := ?vTF5) ?hiTF5 (by kernel_rfl) (by kernel_rfl) (by kernel_rfl) (fun _ _ _ h => h) (Or.inl ⟨?wTF5, ?yTF5⟩) (by assumption) ?rTF5
      case hiTF5 => (simp only [List.getElem?_toArray, List.getElem?_cons_succ, List.getElem?_cons_zero]; try rfl)
      case wTF5 => rfl
      case yTF5 => (intro w hSw; (try dsimp only at hSw); go_simp; (try with_reducible rfl))
      (try simp only [Act.put, List.setIfInBounds_toArray, List.set_cons_zero, List.set_cons_succ])
      refine wpAnyH_done (by kernel_rfl) ?_ _
      refine NoPanic.normal ?_
      have e8 := fun W => eqSl (some ⟨gP, 0, none⟩) 21 cpP W
      have n8 := fun W => neSl (some ⟨gP, 0, none⟩) 21 cpP W
      simp only [Option.isNone_some] at e8
      simp only [Option.isNone_some, Bool.not_false] at n8
      obtain ⟨⟨b0, b1, b2, b3, b4, b5⟩, _⟩ := HC.out wB KwB.out
      go_wp2_with fail
      refine (HRK2.out wB).mono ?_
      rintro e wC ⟨rfl, hkC⟩
      have KwC := Lib.hid (KwB.out.trans' hkC)
      have KBC := Lib.hid hkC
      clear hkC b0 b1 b2 b3 b4 b5
      go_wp2_with fail
      refine (HTL.out wC KwC.out).mono ?_
      rintro e wD ⟨rfl, hkD⟩
      have KwD := Lib.hid (KwC.out.trans' hkD)
      have KBD := Lib.hid (KBC.out.trans' hkD)
      clear hkD
      have HD : Hid (Calls Tryz.prog 18 #[.slice (some ⟨gP, 0, none⟩) 21 cpP] wD fun e w' => e = .returned (.tuple #[.agg #[.int .i64 k, .int .i64 f, .int .i64 t, .int .i64 d, .int .i64 n, .bool y], .int .i64 0]) ∧ Keep NoF wD w') := by
        refine Lib.hid ?_
        have h := wdec_at (some ⟨gP, 0, none⟩) 21 cpP A wD (HSP.out.keep (hkABwB.trans' KBD.out) (fun _ _ f => f)) HPL.out (fun g hg => by
          injection hg with hg
          rw [← hg]
          exact Nat.lt_of_lt_of_le HLP.out (hkABwB.trans' KBD.out).size)
        unfold WDecPost at h
        rw [HDW.out.1, HDW.out.2, HHP.out] at h
        exact h
      go_wp2_with fail
      refine HD.out.mono ?_
      rintro e wE ⟨rfl, hkE⟩
      have KwE := Lib.hid (KwD.out.trans' hkE)
      have KBE := Lib.hid (KBD.out.trans' hkE)
      clear hkE
      obtain ⟨D, hhD⟩ : ∃ D, wE.heap.size = D := ⟨_, rfl⟩
      go_upto_region 11 with fail
      have hrD := heap_new wE (.cells #[.int .i64 k, .int .i64 f, .int .i64 t, .int .i64 d, .int .i64 n, .bool y] 23 (0, 0))
      have hkD := keep_alloc wE (.cells #[.int .i64 k, .int .i64 f, .int .i64 t, .int .i64 d, .int .i64 n, .bool y] 23 (0, 0))
      have hsD : (wE.alloc (.cells #[.int .i64 k, .int .i64 f, .int .i64 t, .int .i64 d, .int .i64 n, .bool y] 23 (0, 0))).heap.size = wE.heap.size + 1 := size_alloc _ _
      show Code.wp _ _ _ _ (wE.alloc (.cells #[.int .i64 k, .int .i64 f, .int .i64 t, .int .i64 d, .int .i64 n, .bool y] 23 (0, 0)))
      rw [hhD] at hrD hsD
      generalize wE.alloc (.cells #[.int .i64 k, .int .i64 f, .int .i64 t, .int .i64 d, .int .i64 n, .bool y] 23 (0, 0)) = W9 at hrD hkD hsD ⊢
      (try rw [hhD])
      have HCD : Hid (∀ W : World, W.heap[D]? = W9.heap[D]? → W.cell? ⟨D, 0, none⟩ = some (.int .i64 k) ∧ W.cell? ⟨D, 1, none⟩ = some (.int .i64 f) ∧ W.cell? ⟨D, 2, none⟩ = some (.int .i64 t) ∧ W.cell? ⟨D, 3, none⟩ = some (.int .i64 d) ∧ W.cell? ⟨D, 4, none⟩ = some (.int .i64 n) ∧ W.cell? ⟨D, 5, none⟩ = some (.bool y)) := Lib.hid fun W hW => by
        have e := hW.trans hrD
        refine ⟨?_, ?_, ?_, ?_, ?_, ?_⟩
        all_goals (rw [cell_of_heap e]; rfl)
      have HKD := Lib.hid hkD; have HRD := Lib.hid hrD; have HLD : Hid (D < W9.heap.size ∧ wE.heap.size = D) := Lib.hid ⟨by omega, hhD⟩
      clear hrD hkD hsD hhD
      have KW9 := Lib.hid (KwE.out.trans' HKD.out)
      have HV : Hid (∀ W, Keep NoF W9 W → (convert 24 9 (.slice (some ⟨gP, 0, none⟩) 21 cpP)).run Tryz.prog W = .ok (.string (bstr A)) W) := Lib.hid fun W hW => conv_at (HSP.out.keep (((hkABwB.trans' KBE.out).trans' HKD.out).trans' hW) (fun _ _ f => f)) HPL.out
      have e9 := fun W => eqSl none 0 0 W
      simp only [Option.isNone_none] at e9
      have hv0 := And.intro (And.intro (HC.out _ (KW9.out.trans' (Keep.refl NoF W9).drew)) (HCD.out _ (Keep.block (Keep.refl NoF W9).drew D HLD.out.1 (fun f => f)))) (HV.out _ (Keep.refl NoF W9).drew)
      refine wp_region_noPanic ?_
      refine wp_region_held_drew (S := (fun W' : World => (((W'.cell? ⟨B, 0, none⟩ = some (.int .i64 k) ∧ W'.cell? ⟨B, 1, none⟩ = some (.int .i64 f) ∧ W'.cell? ⟨B, 2, none⟩ = some (.int .i64 t) ∧ W'.cell? ⟨B, 3, none⟩ = some (.int .i64 d) ∧ W'.cell? ⟨B, 4, none⟩ = some (.int .i64 n) ∧ W'.cell? ⟨B, 5, none⟩ = some (.bool y)) ∧ (W'.cell? ⟨C, 0, none⟩ = some (.int .i64 qk) ∧ W'.cell? ⟨C, 1, none⟩ = some (.int .i64 qf) ∧ W'.cell? ⟨C, 2, none⟩ = some (.int .i64 qt) ∧ W'.cell? ⟨C, 3, none⟩ = some (.int .i64 qd) ∧ W'.cell? ⟨C, 4, none⟩ = some (.int .i64 qn) ∧ W'.cell? ⟨C, 5, none⟩ = some (.bool qy))) ∧ (W'.cell? ⟨D, 0, none⟩ = some (.int .i64 k) ∧ W'.cell? ⟨D, 1, none⟩ = some (.int .i64 f) ∧ W'.cell? ⟨D, 2, none⟩ = some (.int .i64 t) ∧ W'.cell? ⟨D, 3, none⟩ = some (.int .i64 d) ∧ W'.cell? ⟨D, 4, none⟩ = some (.int .i64 n) ∧ W'.cell? ⟨D, 5, none⟩ = some (.bool y))) ∧ (convert 24 9 (.slice (some ⟨gP, 0, none⟩) 21 cpP)).run Tryz.prog W' = .ok (.string (bstr A)) W')) (by kernel_rfl) (hv0) (fun hHeld => ?_)
      refine wpAnyH_take (i := 0) (oi := ?oTFr0) (v := ?vTFr0) ?hiTFr0 (by kernel_rfl) (by kernel_rfl) (by kernel_rfl) (fun _ _ _ h => h) (Or.inl ⟨?wTFr0, ?yTFr0⟩) (by assumption) ?rTFr0
      case hiTFr0 => (simp only [List.getElem?_toArray, List.getElem?_cons_zero]; try rfl)
      case wTFr0 => rfl
      case yTFr0 => (intro w hSw; (try dsimp only at hSw); go_simp; (try with_reducible rfl))
      (try simp only [Act.put, List.setIfInBounds_toArray, List.set_cons_zero, List.set_cons_succ])
      refine wpAnyH_take (i := 1) (oi := ?oTFr1) (v := ?vTFr1) ?hiTFr1 (by kernel_rfl) (by kernel_rfl) (by kernel_rfl) (fun _ _ _ h => h) (Or.inl ⟨?wTFr1, ?yTFr1⟩) (by assumption) ?rTFr1
      case hiTFr1 => (simp only [List.getElem?_toArray, List.getElem?_cons_succ, List.getElem?_cons_zero]; try rfl)
      case wTFr1 => rfl
      case yTFr1 => (intro w hSw; (try dsimp only at hSw); go_simp; (try with_reducible rfl))
      (try simp only [Act.put, List.setIfInBounds_toArray, List.set_cons_zero, List.set_cons_succ])
      refine wpAnyH_take (i := 2) (oi := ?oTFr2) (v := ?vTFr2) ?hiTFr2 (by kernel_rfl) (by kernel_rfl) (by kernel_rfl) (fun _ _ _ h => h) (Or.inl ⟨?wTFr2, ?yTFr2⟩) (by assumption) ?rTFr2
      case hiTFr2 => (simp only [List.getElem?_toArray, List.getElem?_cons_succ, List.getElem?_cons_zero]; try rfl)
      case wTFr2 => rfl
      case yTFr2 => (intro w hSw; (try dsimp only at hSw); go_simp; (try with_reducible rfl))
      (try simp only [Act.put, List.setIfInBounds_toArray, List.set_cons_zero, List.set_cons_succ])
      refine wpAnyH_ready (rs := [3]) (by kernel_rfl) (by simp) ?_
      refine AllReadyH.cons (o := ?oTFr3) ?hiTFr3 (fun K hK => ?_) AllReadyH.nil
      case hiTFr3 => (simp only [List.getElem?_toArray, List.getElem?_cons_succ, List.getElem?_cons_zero]; try rfl)
      go_simp
      (go_at_call 19; refine (HBY.out _).mono ?_; rintro e wF ⟨vF, rfl, hvF, hkF, _⟩; have KF : Hid (Keep NoF W9 wF) := Lib.hid hkF.of_drew; have hcF := conv_own hvF; clear hkF hvF)
      go_wp2_with fail
      refine hK.out _ _ (And.intro (And.intro (HC.out _ (KW9.out.trans' KF.out)) (HCD.out _ (Keep.block KF.out D HLD.out.1 (fun f => f)))) (HV.out _ KF.out)) (fun hHeld => ?_)
      clear hK K
      (try simp only [Act.put, List.setIfInBounds_toArray, List.set_cons_zero, List.set_cons_succ])
      refine wpAnyH_ready (rs := [4]) (by kernel_rfl) (by simp) ?_
      refine AllReadyH.cons (o := ?oTFr4) ?hiTFr4 (fun K hK => ?_) AllReadyH.nil
      case hiTFr4 => (simp only [List.getElem?_toArray, List.getElem?_cons_succ, List.getElem?_cons_zero]; try rfl)
      go_simp
      refine hK.out _ _ (And.intro (And.intro (HC.out _ (KW9.out.trans' KF.out)) (HCD.out _ (Keep.block KF.out D HLD.out.1 (fun f => f)))) (HV.out _ KF.out)) (fun hHeld => ?_)
      clear hK K
      (try simp only [Act.put, List.setIfInBounds_toArray, List.set_cons_zero, List.set_cons_succ])
      refine wpAnyH_take (i := 5) (oi := ?oTFr5) (v := ?vTFr5) ?hiTFr5 (by kernel_rfl) (by kernel_rfl) (by kernel_rfl) (fun _ _ _ h => h) (Or.inl ⟨?wTFr5, ?yTFr5⟩) (by assumption) ?rTFr5
      case hiTFr5 => (simp only [List.getElem?_toArray, List.getElem?_cons_succ, List.getElem?_cons_zero]; try rfl)
      case wTFr5 => rfl
      case yTFr5 => (intro w hSw; (try dsimp only at hSw); go_simp; (try with_reducible rfl))
      (try simp only [Act.put, List.setIfInBounds_toArray, List.set_cons_zero, List.set_cons_succ])
      refine wpAnyH_take (i := 6) (oi := ?oTFr6) (v := ?vTFr6) ?hiTFr6 (by kernel_rfl) (by kernel_rfl) (by kernel_rfl) (fun _ _ _ h => h) (Or.inl ⟨?wTFr6, ?yTFr6⟩) (by assumption) ?rTFr6
      case hiTFr6 => (simp only [List.getElem?_toArray, List.getElem?_cons_succ, List.getElem?_cons_zero]; try rfl)
      case wTFr6 => rfl
      case yTFr6 => (intro w hSw; (try dsimp only at hSw); go_simp; (try with_reducible rfl))
      (try simp only [Act.put, List.setIfInBounds_toArray, List.set_cons_zero, List.set_cons_succ])
      refine wpAnyH_take (i := 7) (oi := ?oTFr7) (v := ?vTFr7) ?hiTFr7 (by kernel_rfl) (by kernel_rfl) (by kernel_rfl) (fun _ _ _ h => h) (Or.inl ⟨?wTFr7, ?yTFr7⟩) (by assumption) ?rTFr7
      case hiTFr7 => (simp only [List.getElem?_toArray, List.getElem?_cons_succ, List.getElem?_cons_zero]; try rfl)
      case wTFr7 => rfl
      case yTFr7 => (intro w hSw; (try dsimp only at hSw); go_simp; (try with_reducible rfl))
      (try simp only [Act.put, List.setIfInBounds_toArray, List.set_cons_zero, List.set_cons_succ])
      refine wpAnyH_take (i := 8) (oi := ?oTFr8) (v := ?vTFr8) ?hiTFr8 (by kernel_rfl) (by kernel_rfl) (by kernel_rfl) (fun _ _ _ h => h) (Or.inl ⟨?wTFr8, ?yTFr8⟩) (by assumption) ?rTFr8
      case hiTFr8 => (simp only [List.getElem?_toArray, List.getElem?_cons_succ, List.getElem?_cons_zero]; try rfl)
      case wTFr8 => rfl
      case yTFr8 => (intro w hSw; (try dsimp only at hSw); go_simp; (try with_reducible rfl))
      (try simp only [Act.put, List.setIfInBounds_toArray, List.set_cons_zero, List.set_cons_succ])
      refine wpAnyH_take (i := 9) (oi := ?oTFr9) (v := ?vTFr9) ?hiTFr9 (by kernel_rfl) (by kernel_rfl) (by kernel_rfl) (fun _ _ _ h => h) (Or.inl ⟨?wTFr9, ?yTFr9⟩) (by assumption) ?rTFr9
      case hiTFr9 => (simp only [List.getElem?_toArray, List.getElem?_cons_succ, List.getElem?_cons_zero]; try rfl)
      case wTFr9 => rfl
      case yTFr9 => (intro w hSw; (try dsimp only at hSw); go_simp; (try with_reducible rfl))
      (try simp only [Act.put, List.setIfInBounds_toArray, List.set_cons_zero, List.set_cons_succ])
      refine wpAnyH_take (i := 10) (oi := ?oTFr10) (v := ?vTFr10) ?hiTFr10 (by kernel_rfl) (by kernel_rfl) (by kernel_rfl) (fun _ _ _ h => h) (Or.inl ⟨?wTFr10, ?yTFr10⟩) (by assumption) ?rTFr10
      case hiTFr10 => (simp only [List.getElem?_toArray, List.getElem?_cons_succ, List.getElem?_cons_zero]; try rfl)
      case wTFr10 => rfl
      case yTFr10 => (intro w hSw; (try dsimp only at hSw); go_simp; (try with_reducible rfl))
      (try simp only [Act.put, List.setIfInBounds_toArray, List.set_cons_zero, List.set_cons_succ])
      refine wpAnyH_take (i := 11) (oi := ?oTFr11) (v := ?vTFr11) ?hiTFr11 (by kernel_rfl) (by kernel_rfl) (by kernel_rfl) (fun _ _ _ h => h) (Or.inl ⟨?wTFr11, ?yTFr11⟩) (by assumption) ?rTFr11
      case hiTFr11 => (simp only [List.getElem?_toArray, List.getElem?_cons_succ, List.getElem?_cons_zero]; try rfl)
      case wTFr11 => rfl
      case yTFr11 => (intro w hSw; (try dsimp only at hSw); go_simp; (try with_reducible rfl))
      (try simp only [Act.put, List.setIfInBounds_toArray, List.set_cons_zero, List.set_cons_succ])
      refine wpAnyH_take (i := 12) (oi := ?oTFr12) (v := ?vTFr12) ?hiTFr12 (by kernel_rfl) (by kernel_rfl) (by kernel_rfl) (fun _ _ _ h => h) (Or.inl ⟨?wTFr12, ?yTFr12⟩) (by assumption) ?rTFr12
      case hiTFr12 => (simp only [List.getElem?_toArray, List.getElem?_cons_succ, List.getElem?_cons_zero]; try rfl)
      case wTFr12 => rfl
      case yTFr12 => (intro w hSw; (try dsimp only at hSw); go_simp; (try with_reducible rfl))
      (try simp only [Act.put, List.setIfInBounds_toArray, List.set_cons_zero, List.set_cons_succ])
      refine wpAnyH_take (i := 13) (oi := ?oTFr13) (v := ?vTFr13) ?hiTFr13 (by kernel_rfl) (by kernel_rfl) (by kernel_rfl) (fun _ _ _ h => h) (Or.inl ⟨?wTFr13, ?yTFr13⟩) (by assumption) ?rTFr13
      case hiTFr13 => (simp only [List.getElem?_toArray, List.getElem?_cons_succ, List.getElem?_cons_zero]; try rfl)
      case wTFr13 => rfl
      case yTFr13 => (intro w hSw; (try dsimp only at hSw); go_simp; (try with_reducible rfl))
      (try simp only [Act.put, List.setIfInBounds_toArray, List.set_cons_zero, List.set_cons_succ])
      refine wpAnyH_take (i := 14) (oi := ?oTFr14) (v := ?vTFr14) ?hiTFr14 (by kernel_rfl) (by kernel_rfl) (by kernel_rfl) (fun _ _ _ h => h) (Or.inl ⟨?wTFr14, ?yTFr14⟩) (by assumption) ?rTFr14
      case hiTFr14 => (simp only [List.getElem?_toArray, List.getElem?_cons_succ, List.getElem?_cons_zero]; try rfl)
      case wTFr14 => rfl
      case yTFr14 => (intro w hSw; (try dsimp only at hSw); go_simp; (try with_reducible rfl))
      (try simp only [Act.put, List.setIfInBounds_toArray, List.set_cons_zero, List.set_cons_succ])
      refine wpAnyH_take (i := 15) (oi := ?oTFr15) (v := ?vTFr15) ?hiTFr15 (by kernel_rfl) (by kernel_rfl) (by kernel_rfl) (fun _ _ _ h => h) (Or.inl ⟨?wTFr15, ?yTFr15⟩) (by assumption) ?rTFr15
      case hiTFr15 => (simp only [List.getElem?_toArray, List.getElem?_cons_succ, List.getElem?_cons_zero]; try rfl)
      case wTFr15 => rfl
      case yTFr15 => (intro w hSw; (try dsimp only at hSw); go_simp; (try with_reducible rfl))
      (try simp only [Act.put, List.setIfInBounds_toArray, List.set_cons_zero, List.set_cons_succ])
      refine wpAnyH_take (i := 16) (oi := ?oTFr16) (v := ?vTFr16) ?hiTFr16 (by kernel_rfl) (by kernel_rfl) (by kernel_rfl) (fun _ _ _ h => h) (Or.inl ⟨?wTFr16, ?yTFr16⟩) (by assumption) ?rTFr16
      case hiTFr16 => (simp only [List.getElem?_toArray, List.getElem?_cons_succ, List.getElem?_cons_zero]; try rfl)
      case wTFr16 => rfl
      case yTFr16 => (intro w hSw; (try dsimp only at hSw); go_simp; (try with_reducible rfl))
      (try simp only [Act.put, List.setIfInBounds_toArray, List.set_cons_zero, List.set_cons_succ])
      refine wpAnyH_take (i := 17) (oi := ?oTFr17) (v := ?vTFr17) ?hiTFr17 (by kernel_rfl) (by kernel_rfl) (by kernel_rfl) (fun _ _ _ h => h) (Or.inl ⟨?wTFr17, ?yTFr17⟩) (by assumption) ?rTFr17
      case hiTFr17 => (simp only [List.getElem?_toArray, List.getElem?_cons_succ, List.getElem?_cons_zero]; try rfl)
      case wTFr17 => rfl
      case yTFr17 => (intro w hSw; (try dsimp only at hSw); go_simp; (try with_reducible rfl))
      (try simp only [Act.put, List.setIfInBounds_toArray, List.set_cons_zero, List.set_cons_succ])
      refine wpAnyH_take (i := 18) (oi := ?oTFr18) (v := ?vTFr18) ?hiTFr18 (by kernel_rfl) (by kernel_rfl) (by kernel_rfl) (fun _ _ _ h => h) (Or.inl ⟨?wTFr18, ?yTFr18⟩) (by assumption) ?rTFr18
      case hiTFr18 => (simp only [List.getElem?_toArray, List.getElem?_cons_succ, List.getElem?_cons_zero]; try rfl)
      case wTFr18 => rfl
      case yTFr18 => (intro w hSw; (try dsimp only at hSw); go_simp; (try with_reducible rfl))
      (try simp only [Act.put, List.setIfInBounds_toArray, List.set_cons_zero, List.set_cons_succ])
      refine wpAnyH_take (i := 19) (oi := ?oTFr19) (v := undef) ?hiTFr19 (by kernel_rfl) (by kernel_rfl) (by kernel_rfl) (fun _ _ _ h => h) (Or.inr ⟨?wTFr19, rfl⟩) (by assumption) ?rTFr19
      case hiTFr19 => (simp only [List.getElem?_toArray, List.getElem?_cons_succ, List.getElem?_cons_zero]; try rfl)
      case wTFr19 => rfl
      (try simp only [Act.put, List.setIfInBounds_toArray, List.set_cons_zero, List.set_cons_succ])
      refine wpAnyH_take (i := 20) (oi := ?oTFr20) (v := undef) ?hiTFr20 (by kernel_rfl) (by kernel_rfl) (by kernel_rfl) (fun _ _ _ h => h) (Or.inr ⟨?wTFr20, rfl⟩) (by assumption) ?rTFr20
      case hiTFr20 => (simp only [List.getElem?_toArray, List.getElem?_cons_succ, List.getElem?_cons_zero]; try rfl)
      case wTFr20 => rfl
      (try simp only [Act.put, List.setIfInBounds_toArray, List.set_cons_zero, List.set_cons_succ])
      refine wpAnyH_take (i := 21) (oi := ?oTFr21) (v := undef) ?hiTFr21 (by kernel_rfl) (by kernel_rfl) (by kernel_rfl) (fun _ _ _ h => h) (Or.inr ⟨?wTFr21, rfl⟩) (by assumption) ?rTFr21
      case hiTFr21 => (simp only [List.getElem?_toArray, List.getElem?_cons_succ, List.getElem?_cons_zero]; try rfl)
      case wTFr21 => rfl
      (try simp only [Act.put, List.setIfInBounds_toArray, List.set_cons_zero, List.set_cons_succ])
      refine wpAnyH_take (i := 22) (oi := ?oTFr22) (v := undef) ?hiTFr22 (by kernel_rfl) (by kernel_rfl) (by kernel_rfl) (fun _ _ _ h => h) (Or.inr ⟨?wTFr22, rfl⟩) (by assumption) ?rTFr22
      case hiTFr22 => (simp only [List.getElem?_toArray, List.getElem?_cons_succ, List.getElem?_cons_zero]; try rfl)
      case wTFr22 => rfl
      (try simp only [Act.put, List.setIfInBounds_toArray, List.set_cons_zero, List.set_cons_succ])
      refine wpAnyH_take (i := 23) (oi := ?oTFr23) (v := undef) ?hiTFr23 (by kernel_rfl) (by kernel_rfl) (by kernel_rfl) (fun _ _ _ h => h) (Or.inr ⟨?wTFr23, rfl⟩) (by assumption) ?rTFr23
      case hiTFr23 => (simp only [List.getElem?_toArray, List.getElem?_cons_succ, List.getElem?_cons_zero]; try rfl)
      case wTFr23 => rfl
      (try simp only [Act.put, List.setIfInBounds_toArray, List.set_cons_zero, List.set_cons_succ])
      refine wpAnyH_take (i := 24) (oi := ?oTFr24) (v := undef) ?hiTFr24 (by kernel_rfl) (by kernel_rfl) (by kernel_rfl) (fun _ _ _ h => h) (Or.inr ⟨?wTFr24, rfl⟩) (by assumption) ?rTFr24
      case hiTFr24 => (simp only [List.getElem?_toArray, List.getElem?_cons_succ, List.getElem?_cons_zero]; try rfl)
      case wTFr24 => rfl
      (try simp only [Act.put, List.setIfInBounds_toArray, List.set_cons_zero, List.set_cons_succ])
      refine wpAnyH_take (i := 25) (oi := ?oTFr25) (v := undef) ?hiTFr25 (by kernel_rfl) (by kernel_rfl) (by kernel_rfl) (fun _ _ _ h => h) (Or.inr ⟨?wTFr25, rfl⟩) (by assumption) ?rTFr25
      case hiTFr25 => (simp only [List.getElem?_toArray, List.getElem?_cons_succ, List.getElem?_cons_zero]; try rfl)
      case wTFr25 => rfl
      (try simp only [Act.put, List.setIfInBounds_toArray, List.set_cons_zero, List.set_cons_succ])
      refine wpAnyH_take (i := 26) (oi := ?oTFr26) (v := undef) ?hiTFr26 (by kernel_rfl) (by kernel_rfl) (by kernel_rfl) (fun _ _ _ h => h) (Or.inr ⟨?wTFr26, rfl⟩) (by assumption) ?rTFr26
      case hiTFr26 => (simp only [List.getElem?_toArray, List.getElem?_cons_succ, List.getElem?_cons_zero]; try rfl)
      case wTFr26 => rfl
      (try simp only [Act.put, List.setIfInBounds_toArray, List.set_cons_zero, List.set_cons_succ])
      refine wpAnyH_take (i := 27) (oi := ?oTFr27) (v := undef) ?hiTFr27 (by kernel_rfl) (by kernel_rfl) (by kernel_rfl) (fun _ _ _ h => h) (Or.inr ⟨?wTFr27, rfl⟩) (by assumption) ?rTFr27
      case hiTFr27 => (simp only [List.getElem?_toArray, List.getElem?_cons_succ, List.getElem?_cons_zero]; try rfl)
      case wTFr27 => rfl
      (try simp only [Act.put, List.setIfInBounds_toArray, List.set_cons_zero, List.set_cons_succ])
      refine wpAnyH_take (i := 28) (oi := ?oTFr28) (v := ?vTFr28) ?hiTFr28 (by kernel_rfl) (by kernel_rfl) (by kernel_rfl) (fun _ _ _ h => h) (Or.inl ⟨?wTFr28, ?yTFr28⟩) (by assumption) ?rTFr28
      case hiTFr28 => (simp only [List.getElem?_toArray, List.getElem?_cons_succ, List.getElem?_cons_zero]; try rfl)
      case wTFr28 => rfl
      case yTFr28 => (intro w hSw; (try dsimp only at hSw); go_simp; (try with_reducible rfl))
      (try simp only [Act.put, List.setIfInBounds_toArray, List.set_cons_zero, List.set_cons_succ])
      refine wpAnyH_take (i := 29) (oi := ?oTFr29) (v := ?vTFr29) ?hiTFr29 (by kernel_rfl) (by kernel_rfl) (by kernel_rfl) (fun _ _ _ h => h) (Or.inl ⟨?wTFr29, ?yTFr29⟩) (by assumption) ?rTFr29
      case hiTFr29 => (simp only [List.getElem?_toArray, List.getElem?_cons_succ, List.getElem?_cons_zero]; try rfl)
      case wTFr29 => rfl
      case yTFr29 => (intro w hSw; (try dsimp only at hSw); go_simp; (try with_reducible rfl))
      (try simp only [Act.put, List.setIfInBounds_toArray, List.set_cons_zero, List.set_cons_succ])
      refine wpAnyH_take (i := 30) (oi := ?oTFr30) (v := ?vTFr30) ?hiTFr30 (by kernel_rfl) (by kernel_rfl) (by kernel_rfl) (fun _ _ _ h => h) (Or.inl ⟨?wTFr30, ?yTFr30⟩) (by assumption) ?rTFr30
      case hiTFr30 => (simp only [List.getElem?_toArray, List.getElem?_cons_succ, List.getElem?_cons_zero]; try rfl)
      case wTFr30 => rfl
      case yTFr30 => (intro w hSw; (try dsimp only at hSw); go_simp; (try with_reducible rfl))
      (try simp only [Act.put, List.setIfInBounds_toArray, List.set_cons_zero, List.set_cons_succ])
      refine wpAnyH_done (by kernel_rfl) ?_ _
      refine NoPanic.normal ?_
      go_wp2_with fail
      go_ret
      exact ⟨rfl, K3.out.trans' (KW9.out.trans' KF.out)⟩
    · have HQE := Lib.hid (fun W => wenc_ok Q W HOK2.out hbq)
      rw [HQV.out] at HQE
      obtain ⟨A2, hA2⟩ : ∃ A, wireB Q = A := ⟨_, rfl⟩
      have HQL : Hid (A2.length = 21) := Lib.hid (by rw [← hA2]; exact wireB_length Q)
      rw [hA2] at HQE
      have HA2 := Lib.hid hA2
      clear hA2
      have hcw := cmp_wire ⟨HOK.out, hbp⟩ ⟨HOK2.out, hbq⟩
      rw [HA.out, HA2.out] at hcw
      obtain ⟨s, hs⟩ : ∃ s, eqP P Q = s := ⟨_, rfl⟩
      rw [hs] at hcw
      have HEQ := Lib.hid (fun (w : World) => ifs_eq P Q (Result.ok (Next.value (Value.bool true)) w) (Result.ok (Next.value (Value.bool false)) w))
      rw [hs, HHP.out, HHQ.out] at HEQ
      clear hs
      clear hbq
      refine wp_region_noPanic ?_
      refine wp_region_held_drew (S := (fun W' : World => (W'.cell? ⟨B, 0, none⟩ = some (.int .i64 k) ∧ W'.cell? ⟨B, 1, none⟩ = some (.int .i64 f) ∧ W'.cell? ⟨B, 2, none⟩ = some (.int .i64 t) ∧ W'.cell? ⟨B, 3, none⟩ = some (.int .i64 d) ∧ W'.cell? ⟨B, 4, none⟩ = some (.int .i64 n) ∧ W'.cell? ⟨B, 5, none⟩ = some (.bool y)) ∧ (W'.cell? ⟨C, 0, none⟩ = some (.int .i64 qk) ∧ W'.cell? ⟨C, 1, none⟩ = some (.int .i64 qf) ∧ W'.cell? ⟨C, 2, none⟩ = some (.int .i64 qt) ∧ W'.cell? ⟨C, 3, none⟩ = some (.int .i64 qd) ∧ W'.cell? ⟨C, 4, none⟩ = some (.int .i64 qn) ∧ W'.cell? ⟨C, 5, none⟩ = some (.bool qy)))) (by kernel_rfl) (hk0) (fun hHeld => ?_)
      refine wpAnyH_take (i := 0) (oi := ?oTT0) (v := ?vTT0) ?hiTT0 (by kernel_rfl) (by kernel_rfl) (by kernel_rfl) (fun _ _ _ h => h) (Or.inl ⟨?wTT0, ?yTT0⟩) (by assumption) ?rTT0
      case hiTT0 => (simp only [List.getElem?_toArray, List.getElem?_cons_zero]; try rfl)
      case wTT0 => rfl
      case yTT0 => (intro w hSw; (try dsimp only at hSw); go_simp; (try with_reducible rfl))
      (try simp only [Act.put, List.setIfInBounds_toArray, List.set_cons_zero, List.set_cons_succ])
      refine wpAnyH_take (i := 2) (oi := ?oTT2) (v := ?vTT2) ?hiTT2 (by kernel_rfl) (by kernel_rfl) (by kernel_rfl) (fun _ _ _ h => h) (Or.inl ⟨?wTT2, ?yTT2⟩) (by assumption) ?rTT2
      case hiTT2 => (simp only [List.getElem?_toArray, List.getElem?_cons_succ, List.getElem?_cons_zero]; try rfl)
      case wTT2 => rfl
      case yTT2 => (intro w hSw; (try dsimp only at hSw); go_simp; (try with_reducible rfl))
      (try simp only [Act.put, List.setIfInBounds_toArray, List.set_cons_zero, List.set_cons_succ])
      refine wpAnyH_ready (rs := [1]) (by kernel_rfl) (by simp) ?_
      refine AllReadyH.cons (o := ?oTT1) ?hiTT1 (fun K hK => ?_) AllReadyH.nil
      case hiTT1 => (simp only [List.getElem?_toArray, List.getElem?_cons_succ, List.getElem?_cons_zero]; try rfl)
      go_simp
      (go_at_call 15; refine (HPE.out _).mono ?_; rintro e wA ⟨vwA, rfl, hvwA, hkwA, _⟩; have hkABwA := hkwA; have KwA : Hid (Keep NoF W3 wA) := Lib.hid (hkwA.of_drew); obtain ⟨gP, cpP, rfl, hsP, hlP⟩ := own_some hvwA HPL.out (by decide); have HSP := Lib.hid hsP; have HLP := Lib.hid hlP; clear hkwA hvwA hsP hlP)
      go_wp2_with fail
      refine hK.out _ _ (HC.out _ KwA.out) (fun hHeld => ?_)
      clear hK K
      (try simp only [Act.put, List.setIfInBounds_toArray, List.set_cons_zero, List.set_cons_succ])
      refine wpAnyH_ready (rs := [3]) (by kernel_rfl) (by simp) ?_
      refine AllReadyH.cons (o := ?oTT3) ?hiTT3 (fun K hK => ?_) AllReadyH.nil
      case hiTT3 => (simp only [List.getElem?_toArray, List.getElem?_cons_succ, List.getElem?_cons_zero]; try rfl)
      go_simp
      (go_at_call 15; refine (HQE.out _).mono ?_; rintro e wB ⟨vwB, rfl, hvwB, hkwB, _⟩; have hkABwB := hkwB; have KwB : Hid (Keep NoF W3 wB) := Lib.hid (KwA.out.trans' hkwB); obtain ⟨gQ, cpQ, rfl, hsQ, hlQ⟩ := own_some hvwB HQL.out (by decide); have HSQ := Lib.hid hsQ; have HLQ := Lib.hid hlQ; clear hkwB hvwB hsQ hlQ)
      go_wp2_with fail
      refine hK.out _ _ (HC.out _ KwB.out) (fun hHeld => ?_)
      clear hK K
      (try simp only [Act.put, List.setIfInBounds_toArray, List.set_cons_zero, List.set_cons_succ])
      refine wpAnyH_take (i := 4) (oi := ?oTT4) (v := ?vTT4) ?hiTT4 (by kernel_rfl) (by kernel_rfl) (by kernel_rfl) (fun _ _ _ h => h) (Or.inl ⟨?wTT4, ?yTT4⟩) (by assumption) ?rTT4
      case hiTT4 => (simp only [List.getElem?_toArray, List.getElem?_cons_succ, List.getElem?_cons_zero]; try rfl)
      case wTT4 => rfl
      case yTT4 => (intro w hSw; (try dsimp only at hSw); go_simp; (try with_reducible rfl))
      (try simp only [Act.put, List.setIfInBounds_toArray, List.set_cons_zero, List.set_cons_succ])
      refine wpAnyH_take (i := 5) (oi := ?oTT5) (v := ?vTT5) ?hiTT5 (by kernel_rfl) (by kernel_rfl) (by kernel_rfl) (fun _ _ _ h => h) (Or.inl ⟨?wTT5, ?yTT5⟩) (by assumption) ?rTT5
      case hiTT5 => (simp only [List.getElem?_toArray, List.getElem?_cons_succ, List.getElem?_cons_zero]; try rfl)
      case wTT5 => rfl
      case yTT5 => (intro w hSw; (try dsimp only at hSw); go_simp; (try with_reducible rfl))
      (try simp only [Act.put, List.setIfInBounds_toArray, List.set_cons_zero, List.set_cons_succ])
      refine wpAnyH_done (by kernel_rfl) ?_ _
      refine NoPanic.normal ?_
      have e8 := fun W => eqSl (some ⟨gP, 0, none⟩) 21 cpP W
      have n8 := fun W => neSl (some ⟨gP, 0, none⟩) 21 cpP W
      simp only [Option.isNone_some] at e8
      simp only [Option.isNone_some, Bool.not_false] at n8
      obtain ⟨⟨b0, b1, b2, b3, b4, b5⟩, _⟩ := HC.out wB KwB.out
      go_wp2_with fail
      refine (HRK2.out wB).mono ?_
      rintro e wC ⟨rfl, hkC⟩
      have KwC := Lib.hid (KwB.out.trans' hkC)
      have KBC := Lib.hid hkC
      clear hkC b0 b1 b2 b3 b4 b5
      go_wp2_with fail
      refine (HTL.out wC KwC.out).mono ?_
      rintro e wD ⟨rfl, hkD⟩
      have KwD := Lib.hid (KwC.out.trans' hkD)
      have KBD := Lib.hid (KBC.out.trans' hkD)
      clear hkD
      have HD : Hid (Calls Tryz.prog 18 #[.slice (some ⟨gP, 0, none⟩) 21 cpP] wD fun e w' => e = .returned (.tuple #[.agg #[.int .i64 k, .int .i64 f, .int .i64 t, .int .i64 d, .int .i64 n, .bool y], .int .i64 0]) ∧ Keep NoF wD w') := by
        refine Lib.hid ?_
        have h := wdec_at (some ⟨gP, 0, none⟩) 21 cpP A wD (HSP.out.keep (hkABwB.trans' KBD.out) (fun _ _ f => f)) HPL.out (fun g hg => by
          injection hg with hg
          rw [← hg]
          exact Nat.lt_of_lt_of_le HLP.out (hkABwB.trans' KBD.out).size)
        unfold WDecPost at h
        rw [HDW.out.1, HDW.out.2, HHP.out] at h
        exact h
      go_wp2_with fail
      refine HD.out.mono ?_
      rintro e wE ⟨rfl, hkE⟩
      have KwE := Lib.hid (KwD.out.trans' hkE)
      have KBE := Lib.hid (KBD.out.trans' hkE)
      clear hkE
      obtain ⟨D, hhD⟩ : ∃ D, wE.heap.size = D := ⟨_, rfl⟩
      go_upto_region 11 with fail
      have hrD := heap_new wE (.cells #[.int .i64 k, .int .i64 f, .int .i64 t, .int .i64 d, .int .i64 n, .bool y] 23 (0, 0))
      have hkD := keep_alloc wE (.cells #[.int .i64 k, .int .i64 f, .int .i64 t, .int .i64 d, .int .i64 n, .bool y] 23 (0, 0))
      have hsD : (wE.alloc (.cells #[.int .i64 k, .int .i64 f, .int .i64 t, .int .i64 d, .int .i64 n, .bool y] 23 (0, 0))).heap.size = wE.heap.size + 1 := size_alloc _ _
      show Code.wp _ _ _ _ (wE.alloc (.cells #[.int .i64 k, .int .i64 f, .int .i64 t, .int .i64 d, .int .i64 n, .bool y] 23 (0, 0)))
      rw [hhD] at hrD hsD
      generalize wE.alloc (.cells #[.int .i64 k, .int .i64 f, .int .i64 t, .int .i64 d, .int .i64 n, .bool y] 23 (0, 0)) = W9 at hrD hkD hsD ⊢
      (try rw [hhD])
      have HCD : Hid (∀ W : World, W.heap[D]? = W9.heap[D]? → W.cell? ⟨D, 0, none⟩ = some (.int .i64 k) ∧ W.cell? ⟨D, 1, none⟩ = some (.int .i64 f) ∧ W.cell? ⟨D, 2, none⟩ = some (.int .i64 t) ∧ W.cell? ⟨D, 3, none⟩ = some (.int .i64 d) ∧ W.cell? ⟨D, 4, none⟩ = some (.int .i64 n) ∧ W.cell? ⟨D, 5, none⟩ = some (.bool y)) := Lib.hid fun W hW => by
        have e := hW.trans hrD
        refine ⟨?_, ?_, ?_, ?_, ?_, ?_⟩
        all_goals (rw [cell_of_heap e]; rfl)
      have HKD := Lib.hid hkD; have HRD := Lib.hid hrD; have HLD : Hid (D < W9.heap.size ∧ wE.heap.size = D) := Lib.hid ⟨by omega, hhD⟩
      clear hrD hkD hsD hhD
      have KW9 := Lib.hid (KwE.out.trans' HKD.out)
      have HV : Hid (∀ W, Keep NoF W9 W → (convert 24 9 (.slice (some ⟨gP, 0, none⟩) 21 cpP)).run Tryz.prog W = .ok (.string (bstr A)) W) := Lib.hid fun W hW => conv_at (HSP.out.keep (((hkABwB.trans' KBE.out).trans' HKD.out).trans' hW) (fun _ _ f => f)) HPL.out
      have HV2 : Hid (∀ W, Keep NoF W9 W → (convert 24 9 (.slice (some ⟨gQ, 0, none⟩) 21 cpQ)).run Tryz.prog W = .ok (.string (bstr A2)) W) := Lib.hid fun W hW => conv_at (HSQ.out.keep ((KBE.out.trans' HKD.out).trans' hW) (fun _ _ f => f)) HQL.out
      have e9 := fun W => eqSl (some ⟨gQ, 0, none⟩) 21 cpQ W
      simp only [Option.isNone_some] at e9
      have hv0 := And.intro (And.intro (HC.out _ (KW9.out.trans' (Keep.refl NoF W9).drew)) (HCD.out _ (Keep.block (Keep.refl NoF W9).drew D HLD.out.1 (fun f => f)))) (And.intro (HV.out _ (Keep.refl NoF W9).drew) (HV2.out _ (Keep.refl NoF W9).drew))
      cases s
      · refine wp_region_noPanic ?_
        refine wp_region_held_drew (S := (fun W' : World => (((W'.cell? ⟨B, 0, none⟩ = some (.int .i64 k) ∧ W'.cell? ⟨B, 1, none⟩ = some (.int .i64 f) ∧ W'.cell? ⟨B, 2, none⟩ = some (.int .i64 t) ∧ W'.cell? ⟨B, 3, none⟩ = some (.int .i64 d) ∧ W'.cell? ⟨B, 4, none⟩ = some (.int .i64 n) ∧ W'.cell? ⟨B, 5, none⟩ = some (.bool y)) ∧ (W'.cell? ⟨C, 0, none⟩ = some (.int .i64 qk) ∧ W'.cell? ⟨C, 1, none⟩ = some (.int .i64 qf) ∧ W'.cell? ⟨C, 2, none⟩ = some (.int .i64 qt) ∧ W'.cell? ⟨C, 3, none⟩ = some (.int .i64 qd) ∧ W'.cell? ⟨C, 4, none⟩ = some (.int .i64 qn) ∧ W'.cell? ⟨C, 5, none⟩ = some (.bool qy))) ∧ (W'.cell? ⟨D, 0, none⟩ = some (.int .i64 k) ∧ W'.cell? ⟨D, 1, none⟩ = some (.int .i64 f) ∧ W'.cell? ⟨D, 2, none⟩ = some (.int .i64 t) ∧ W'.cell? ⟨D, 3, none⟩ = some (.int .i64 d) ∧ W'.cell? ⟨D, 4, none⟩ = some (.int .i64 n) ∧ W'.cell? ⟨D, 5, none⟩ = some (.bool y))) ∧ (convert 24 9 (.slice (some ⟨gP, 0, none⟩) 21 cpP)).run Tryz.prog W' = .ok (.string (bstr A)) W' ∧ (convert 24 9 (.slice (some ⟨gQ, 0, none⟩) 21 cpQ)).run Tryz.prog W' = .ok (.string (bstr A2)) W')) (by kernel_rfl) (hv0) (fun hHeld => ?_)
        refine wpAnyH_take (i := 0) (oi := ?oTTrF0) (v := ?vTTrF0) ?hiTTrF0 (by kernel_rfl) (by kernel_rfl) (by kernel_rfl) (fun _ _ _ h => h) (Or.inl ⟨?wTTrF0, ?yTTrF0⟩) (by assumption) ?rTTrF0
        case hiTTrF0 => (simp only [List.getElem?_toArray, List.getElem?_cons_zero]; try rfl)
        case wTTrF0 => rfl
        case yTTrF0 => (intro w hSw; (try dsimp only at hSw); go_simp; (try with_reducible rfl))
        (try simp only [Act.put, List.setIfInBounds_toArray, List.set_cons_zero, List.set_cons_succ])
        refine wpAnyH_take (i := 1) (oi := ?oTTrF1) (v := ?vTTrF1) ?hiTTrF1 (by kernel_rfl) (by kernel_rfl) (by kernel_rfl) (fun _ _ _ h => h) (Or.inl ⟨?wTTrF1, ?yTTrF1⟩) (by assumption) ?rTTrF1
        case hiTTrF1 => (simp only [List.getElem?_toArray, List.getElem?_cons_succ, List.getElem?_cons_zero]; try rfl)
        case wTTrF1 => rfl
        case yTTrF1 => (intro w hSw; (try dsimp only at hSw); go_simp; (try with_reducible rfl))
        (try simp only [Act.put, List.setIfInBounds_toArray, List.set_cons_zero, List.set_cons_succ])
        refine wpAnyH_take (i := 2) (oi := ?oTTrF2) (v := ?vTTrF2) ?hiTTrF2 (by kernel_rfl) (by kernel_rfl) (by kernel_rfl) (fun _ _ _ h => h) (Or.inl ⟨?wTTrF2, ?yTTrF2⟩) (by assumption) ?rTTrF2
        case hiTTrF2 => (simp only [List.getElem?_toArray, List.getElem?_cons_succ, List.getElem?_cons_zero]; try rfl)
        case wTTrF2 => rfl
        case yTTrF2 => (intro w hSw; (try dsimp only at hSw); go_simp; (try with_reducible rfl))
        (try simp only [Act.put, List.setIfInBounds_toArray, List.set_cons_zero, List.set_cons_succ])
        refine wpAnyH_ready (rs := [3]) (by kernel_rfl) (by simp) ?_
        refine AllReadyH.cons (o := ?oTTrF3) ?hiTTrF3 (fun K hK => ?_) AllReadyH.nil
        case hiTTrF3 => (simp only [List.getElem?_toArray, List.getElem?_cons_succ, List.getElem?_cons_zero]; try rfl)
        go_simp
        (go_at_call 19; refine (HBY.out _).mono ?_; rintro e wF ⟨vF, rfl, hvF, hkF, _⟩; have KF : Hid (Keep NoF W9 wF) := Lib.hid hkF.of_drew; have hcF := conv_own hvF; clear hkF hvF)
        go_wp2_with fail
        refine hK.out _ _ (And.intro (And.intro (HC.out _ (KW9.out.trans' KF.out)) (HCD.out _ (Keep.block KF.out D HLD.out.1 (fun f => f)))) (And.intro (HV.out _ KF.out) (HV2.out _ KF.out))) (fun hHeld => ?_)
        clear hK K
        (try simp only [Act.put, List.setIfInBounds_toArray, List.set_cons_zero, List.set_cons_succ])
        refine wpAnyH_ready (rs := [4]) (by kernel_rfl) (by simp) ?_
        refine AllReadyH.cons (o := ?oTTrF4) ?hiTTrF4 (fun K hK => ?_) AllReadyH.nil
        case hiTTrF4 => (simp only [List.getElem?_toArray, List.getElem?_cons_succ, List.getElem?_cons_zero]; try rfl)
        go_simp
        refine hK.out _ _ (And.intro (And.intro (HC.out _ (KW9.out.trans' KF.out)) (HCD.out _ (Keep.block KF.out D HLD.out.1 (fun f => f)))) (And.intro (HV.out _ KF.out) (HV2.out _ KF.out))) (fun hHeld => ?_)
        clear hK K
        (try simp only [Act.put, List.setIfInBounds_toArray, List.set_cons_zero, List.set_cons_succ])
        refine wpAnyH_take (i := 5) (oi := ?oTTrF5) (v := ?vTTrF5) ?hiTTrF5 (by kernel_rfl) (by kernel_rfl) (by kernel_rfl) (fun _ _ _ h => h) (Or.inl ⟨?wTTrF5, ?yTTrF5⟩) (by assumption) ?rTTrF5
        case hiTTrF5 => (simp only [List.getElem?_toArray, List.getElem?_cons_succ, List.getElem?_cons_zero]; try rfl)
        case wTTrF5 => rfl
        case yTTrF5 => (intro w hSw; (try dsimp only at hSw); go_simp; (try with_reducible rfl))
        (try simp only [Act.put, List.setIfInBounds_toArray, List.set_cons_zero, List.set_cons_succ])
        refine wpAnyH_take (i := 6) (oi := ?oTTrF6) (v := ?vTTrF6) ?hiTTrF6 (by kernel_rfl) (by kernel_rfl) (by kernel_rfl) (fun _ _ _ h => h) (Or.inl ⟨?wTTrF6, ?yTTrF6⟩) (by assumption) ?rTTrF6
        case hiTTrF6 => (simp only [List.getElem?_toArray, List.getElem?_cons_succ, List.getElem?_cons_zero]; try rfl)
        case wTTrF6 => rfl
        case yTTrF6 => (intro w hSw; (try dsimp only at hSw); go_simp; (try with_reducible rfl))
        (try simp only [Act.put, List.setIfInBounds_toArray, List.set_cons_zero, List.set_cons_succ])
        refine wpAnyH_take (i := 7) (oi := ?oTTrF7) (v := ?vTTrF7) ?hiTTrF7 (by kernel_rfl) (by kernel_rfl) (by kernel_rfl) (fun _ _ _ h => h) (Or.inl ⟨?wTTrF7, ?yTTrF7⟩) (by assumption) ?rTTrF7
        case hiTTrF7 => (simp only [List.getElem?_toArray, List.getElem?_cons_succ, List.getElem?_cons_zero]; try rfl)
        case wTTrF7 => rfl
        case yTTrF7 => (intro w hSw; (try dsimp only at hSw); go_simp; (try with_reducible rfl))
        (try simp only [Act.put, List.setIfInBounds_toArray, List.set_cons_zero, List.set_cons_succ])
        refine wpAnyH_take (i := 8) (oi := ?oTTrF8) (v := ?vTTrF8) ?hiTTrF8 (by kernel_rfl) (by kernel_rfl) (by kernel_rfl) (fun _ _ _ h => h) (Or.inl ⟨?wTTrF8, ?yTTrF8⟩) (by assumption) ?rTTrF8
        case hiTTrF8 => (simp only [List.getElem?_toArray, List.getElem?_cons_succ, List.getElem?_cons_zero]; try rfl)
        case wTTrF8 => rfl
        case yTTrF8 => (intro w hSw; (try dsimp only at hSw); go_simp; (try with_reducible rfl))
        (try simp only [Act.put, List.setIfInBounds_toArray, List.set_cons_zero, List.set_cons_succ])
        refine wpAnyH_take (i := 9) (oi := ?oTTrF9) (v := ?vTTrF9) ?hiTTrF9 (by kernel_rfl) (by kernel_rfl) (by kernel_rfl) (fun _ _ _ h => h) (Or.inl ⟨?wTTrF9, ?yTTrF9⟩) (by assumption) ?rTTrF9
        case hiTTrF9 => (simp only [List.getElem?_toArray, List.getElem?_cons_succ, List.getElem?_cons_zero]; try rfl)
        case wTTrF9 => rfl
        case yTTrF9 => (intro w hSw; (try dsimp only at hSw); go_simp; (try with_reducible rfl))
        (try simp only [Act.put, List.setIfInBounds_toArray, List.set_cons_zero, List.set_cons_succ])
        refine wpAnyH_take (i := 10) (oi := ?oTTrF10) (v := ?vTTrF10) ?hiTTrF10 (by kernel_rfl) (by kernel_rfl) (by kernel_rfl) (fun _ _ _ h => h) (Or.inl ⟨?wTTrF10, ?yTTrF10⟩) (by assumption) ?rTTrF10
        case hiTTrF10 => (simp only [List.getElem?_toArray, List.getElem?_cons_succ, List.getElem?_cons_zero]; try rfl)
        case wTTrF10 => rfl
        case yTTrF10 => (intro w hSw; (try dsimp only at hSw); go_simp; (try with_reducible rfl))
        (try simp only [Act.put, List.setIfInBounds_toArray, List.set_cons_zero, List.set_cons_succ])
        refine wpAnyH_take (i := 11) (oi := ?oTTrF11) (v := ?vTTrF11) ?hiTTrF11 (by kernel_rfl) (by kernel_rfl) (by kernel_rfl) (fun _ _ _ h => h) (Or.inl ⟨?wTTrF11, ?yTTrF11⟩) (by assumption) ?rTTrF11
        case hiTTrF11 => (simp only [List.getElem?_toArray, List.getElem?_cons_succ, List.getElem?_cons_zero]; try rfl)
        case wTTrF11 => rfl
        case yTTrF11 => (intro w hSw; (try dsimp only at hSw); go_simp; (try with_reducible rfl))
        (try simp only [Act.put, List.setIfInBounds_toArray, List.set_cons_zero, List.set_cons_succ])
        refine wpAnyH_take (i := 12) (oi := ?oTTrF12) (v := ?vTTrF12) ?hiTTrF12 (by kernel_rfl) (by kernel_rfl) (by kernel_rfl) (fun _ _ _ h => h) (Or.inl ⟨?wTTrF12, ?yTTrF12⟩) (by assumption) ?rTTrF12
        case hiTTrF12 => (simp only [List.getElem?_toArray, List.getElem?_cons_succ, List.getElem?_cons_zero]; try rfl)
        case wTTrF12 => rfl
        case yTTrF12 => (intro w hSw; (try dsimp only at hSw); go_simp; (try with_reducible rfl))
        (try simp only [Act.put, List.setIfInBounds_toArray, List.set_cons_zero, List.set_cons_succ])
        refine wpAnyH_take (i := 13) (oi := ?oTTrF13) (v := ?vTTrF13) ?hiTTrF13 (by kernel_rfl) (by kernel_rfl) (by kernel_rfl) (fun _ _ _ h => h) (Or.inl ⟨?wTTrF13, ?yTTrF13⟩) (by assumption) ?rTTrF13
        case hiTTrF13 => (simp only [List.getElem?_toArray, List.getElem?_cons_succ, List.getElem?_cons_zero]; try rfl)
        case wTTrF13 => rfl
        case yTTrF13 => (intro w hSw; (try dsimp only at hSw); go_simp; (try with_reducible rfl))
        (try simp only [Act.put, List.setIfInBounds_toArray, List.set_cons_zero, List.set_cons_succ])
        refine wpAnyH_take (i := 14) (oi := ?oTTrF14) (v := ?vTTrF14) ?hiTTrF14 (by kernel_rfl) (by kernel_rfl) (by kernel_rfl) (fun _ _ _ h => h) (Or.inl ⟨?wTTrF14, ?yTTrF14⟩) (by assumption) ?rTTrF14
        case hiTTrF14 => (simp only [List.getElem?_toArray, List.getElem?_cons_succ, List.getElem?_cons_zero]; try rfl)
        case wTTrF14 => rfl
        case yTTrF14 => (intro w hSw; (try dsimp only at hSw); go_simp; (try with_reducible rfl))
        (try simp only [Act.put, List.setIfInBounds_toArray, List.set_cons_zero, List.set_cons_succ])
        refine wpAnyH_take (i := 15) (oi := ?oTTrF15) (v := ?vTTrF15) ?hiTTrF15 (by kernel_rfl) (by kernel_rfl) (by kernel_rfl) (fun _ _ _ h => h) (Or.inl ⟨?wTTrF15, ?yTTrF15⟩) (by assumption) ?rTTrF15
        case hiTTrF15 => (simp only [List.getElem?_toArray, List.getElem?_cons_succ, List.getElem?_cons_zero]; try rfl)
        case wTTrF15 => rfl
        case yTTrF15 => (intro w hSw; (try dsimp only at hSw); go_simp; (try with_reducible rfl))
        (try simp only [Act.put, List.setIfInBounds_toArray, List.set_cons_zero, List.set_cons_succ])
        refine wpAnyH_take (i := 16) (oi := ?oTTrF16) (v := ?vTTrF16) ?hiTTrF16 (by kernel_rfl) (by kernel_rfl) (by kernel_rfl) (fun _ _ _ h => h) (Or.inl ⟨?wTTrF16, ?yTTrF16⟩) (by assumption) ?rTTrF16
        case hiTTrF16 => (simp only [List.getElem?_toArray, List.getElem?_cons_succ, List.getElem?_cons_zero]; try rfl)
        case wTTrF16 => rfl
        case yTTrF16 => (intro w hSw; (try dsimp only at hSw); go_simp; (try with_reducible rfl))
        (try simp only [Act.put, List.setIfInBounds_toArray, List.set_cons_zero, List.set_cons_succ])
        refine wpAnyH_take (i := 17) (oi := ?oTTrF17) (v := ?vTTrF17) ?hiTTrF17 (by kernel_rfl) (by kernel_rfl) (by kernel_rfl) (fun _ _ _ h => h) (Or.inl ⟨?wTTrF17, ?yTTrF17⟩) (by assumption) ?rTTrF17
        case hiTTrF17 => (simp only [List.getElem?_toArray, List.getElem?_cons_succ, List.getElem?_cons_zero]; try rfl)
        case wTTrF17 => rfl
        case yTTrF17 => (intro w hSw; (try dsimp only at hSw); go_simp; (try with_reducible rfl))
        (try simp only [Act.put, List.setIfInBounds_toArray, List.set_cons_zero, List.set_cons_succ])
        refine wpAnyH_take (i := 18) (oi := ?oTTrF18) (v := ?vTTrF18) ?hiTTrF18 (by kernel_rfl) (by kernel_rfl) (by kernel_rfl) (fun _ _ _ h => h) (Or.inl ⟨?wTTrF18, ?yTTrF18⟩) (by assumption) ?rTTrF18
        case hiTTrF18 => (simp only [List.getElem?_toArray, List.getElem?_cons_succ, List.getElem?_cons_zero]; try rfl)
        case wTTrF18 => rfl
        case yTTrF18 => (intro w hSw; (try dsimp only at hSw); go_simp; (try with_reducible rfl))
        (try simp only [Act.put, List.setIfInBounds_toArray, List.set_cons_zero, List.set_cons_succ])
        refine wpAnyH_take (i := 19) (oi := ?oTTrF19) (v := ?vTTrF19) ?hiTTrF19 (by kernel_rfl) (by kernel_rfl) (by kernel_rfl) (fun _ _ _ h => h) (Or.inl ⟨?wTTrF19, ?yTTrF19⟩) (by assumption) ?rTTrF19
        case hiTTrF19 => (simp only [List.getElem?_toArray, List.getElem?_cons_succ, List.getElem?_cons_zero]; try rfl)
        case wTTrF19 => rfl
        case yTTrF19 => (intro w hSw; (try dsimp only at hSw); go_simp; (try with_reducible rfl))
        (try simp only [Act.put, List.setIfInBounds_toArray, List.set_cons_zero, List.set_cons_succ])
        refine wpAnyH_take (i := 20) (oi := ?oTTrF20) (v := ?vTTrF20) ?hiTTrF20 (by kernel_rfl) (by kernel_rfl) (by kernel_rfl) (fun _ _ _ h => h) (Or.inl ⟨?wTTrF20, ?yTTrF20⟩) (by assumption) ?rTTrF20
        case hiTTrF20 => (simp only [List.getElem?_toArray, List.getElem?_cons_succ, List.getElem?_cons_zero]; try rfl)
        case wTTrF20 => rfl
        case yTTrF20 => (intro w hSw; (try dsimp only at hSw); go_simp; (try with_reducible rfl))
        (try simp only [Act.put, List.setIfInBounds_toArray, List.set_cons_zero, List.set_cons_succ])
        refine wpAnyH_take (i := 21) (oi := ?oTTrF21) (v := ?vTTrF21) ?hiTTrF21 (by kernel_rfl) (by kernel_rfl) (by kernel_rfl) (fun _ _ _ h => h) (Or.inl ⟨?wTTrF21, ?yTTrF21⟩) (by assumption) ?rTTrF21
        case hiTTrF21 => (simp only [List.getElem?_toArray, List.getElem?_cons_succ, List.getElem?_cons_zero]; try rfl)
        case wTTrF21 => rfl
        case yTTrF21 => (intro w hSw; (try dsimp only at hSw); go_simp; (try with_reducible rfl))
        (try simp only [Act.put, List.setIfInBounds_toArray, List.set_cons_zero, List.set_cons_succ])
        refine wpAnyH_take (i := 22) (oi := ?oTTrF22) (v := ?vTTrF22) ?hiTTrF22 (by kernel_rfl) (by kernel_rfl) (by kernel_rfl) (fun _ _ _ h => h) (Or.inl ⟨?wTTrF22, ?yTTrF22⟩) (by assumption) ?rTTrF22
        case hiTTrF22 => (simp only [List.getElem?_toArray, List.getElem?_cons_succ, List.getElem?_cons_zero]; try rfl)
        case wTTrF22 => rfl
        case yTTrF22 => (intro w hSw; (try dsimp only at hSw); go_simp; (try with_reducible rfl))
        (try simp only [Act.put, List.setIfInBounds_toArray, List.set_cons_zero, List.set_cons_succ])
        refine wpAnyH_take (i := 23) (oi := ?oTTrF23) (v := ?vTTrF23) ?hiTTrF23 (by kernel_rfl) (by kernel_rfl) (by kernel_rfl) (fun _ _ _ h => h) (Or.inl ⟨?wTTrF23, ?yTTrF23⟩) (by assumption) ?rTTrF23
        case hiTTrF23 => (simp only [List.getElem?_toArray, List.getElem?_cons_succ, List.getElem?_cons_zero]; try rfl)
        case wTTrF23 => rfl
        case yTTrF23 => (intro w hSw; (try dsimp only at hSw); go_simp; (try with_reducible rfl))
        (try simp only [Act.put, List.setIfInBounds_toArray, List.set_cons_zero, List.set_cons_succ])
        refine wpAnyH_take (i := 24) (oi := ?oTTrF24) (v := ?vTTrF24) ?hiTTrF24 (by kernel_rfl) (by kernel_rfl) (by kernel_rfl) (fun _ _ _ h => h) (Or.inl ⟨?wTTrF24, ?yTTrF24⟩) (by assumption) ?rTTrF24
        case hiTTrF24 => (simp only [List.getElem?_toArray, List.getElem?_cons_succ, List.getElem?_cons_zero]; try rfl)
        case wTTrF24 => rfl
        case yTTrF24 => (intro w hSw; (try dsimp only at hSw); go_simp; (try with_reducible rfl))
        (try simp only [Act.put, List.setIfInBounds_toArray, List.set_cons_zero, List.set_cons_succ])
        refine wpAnyH_take (i := 25) (oi := ?oTTrF25) (v := ?vTTrF25) ?hiTTrF25 (by kernel_rfl) (by kernel_rfl) (by kernel_rfl) (fun _ _ _ h => h) (Or.inl ⟨?wTTrF25, ?yTTrF25⟩) (by assumption) ?rTTrF25
        case hiTTrF25 => (simp only [List.getElem?_toArray, List.getElem?_cons_succ, List.getElem?_cons_zero]; try rfl)
        case wTTrF25 => rfl
        case yTTrF25 => (intro w hSw; (try dsimp only at hSw); go_simp; (try with_reducible rfl))
        (try simp only [Act.put, List.setIfInBounds_toArray, List.set_cons_zero, List.set_cons_succ])
        refine wpAnyH_take (i := 26) (oi := ?oTTrF26) (v := ?vTTrF26) ?hiTTrF26 (by kernel_rfl) (by kernel_rfl) (by kernel_rfl) (fun _ _ _ h => h) (Or.inl ⟨?wTTrF26, ?yTTrF26⟩) (by assumption) ?rTTrF26
        case hiTTrF26 => (simp only [List.getElem?_toArray, List.getElem?_cons_succ, List.getElem?_cons_zero]; try rfl)
        case wTTrF26 => rfl
        case yTTrF26 => (intro w hSw; (try dsimp only at hSw); go_simp; refine (HEQ.out _).trans ?_; rw [if_neg Bool.false_ne_true])
        (try simp only [Act.put, List.setIfInBounds_toArray, List.set_cons_zero, List.set_cons_succ])
        refine wpAnyH_take (i := 27) (oi := ?oTTrF27) (v := ?vTTrF27) ?hiTTrF27 (by kernel_rfl) (by kernel_rfl) (by kernel_rfl) (fun _ _ _ h => h) (Or.inl ⟨?wTTrF27, ?yTTrF27⟩) (by assumption) ?rTTrF27
        case hiTTrF27 => (simp only [List.getElem?_toArray, List.getElem?_cons_succ, List.getElem?_cons_zero]; try rfl)
        case wTTrF27 => rfl
        case yTTrF27 => (intro w hSw; (try dsimp only at hSw); go_simp; (try with_reducible rfl))
        (try simp only [Act.put, List.setIfInBounds_toArray, List.set_cons_zero, List.set_cons_succ])
        refine wpAnyH_take (i := 28) (oi := ?oTTrF28) (v := ?vTTrF28) ?hiTTrF28 (by kernel_rfl) (by kernel_rfl) (by kernel_rfl) (fun _ _ _ h => h) (Or.inl ⟨?wTTrF28, ?yTTrF28⟩) (by assumption) ?rTTrF28
        case hiTTrF28 => (simp only [List.getElem?_toArray, List.getElem?_cons_succ, List.getElem?_cons_zero]; try rfl)
        case wTTrF28 => rfl
        case yTTrF28 => (intro w hSw; (try dsimp only at hSw); go_simp; (try with_reducible rfl))
        (try simp only [Act.put, List.setIfInBounds_toArray, List.set_cons_zero, List.set_cons_succ])
        refine wpAnyH_take (i := 29) (oi := ?oTTrF29) (v := ?vTTrF29) ?hiTTrF29 (by kernel_rfl) (by kernel_rfl) (by kernel_rfl) (fun _ _ _ h => h) (Or.inl ⟨?wTTrF29, ?yTTrF29⟩) (by assumption) ?rTTrF29
        case hiTTrF29 => (simp only [List.getElem?_toArray, List.getElem?_cons_succ, List.getElem?_cons_zero]; try rfl)
        case wTTrF29 => rfl
        case yTTrF29 => (intro w hSw; (try dsimp only at hSw); go_simp; (try with_reducible rfl))
        (try simp only [Act.put, List.setIfInBounds_toArray, List.set_cons_zero, List.set_cons_succ])
        refine wpAnyH_take (i := 30) (oi := ?oTTrF30) (v := ?vTTrF30) ?hiTTrF30 (by kernel_rfl) (by kernel_rfl) (by kernel_rfl) (fun _ _ _ h => h) (Or.inl ⟨?wTTrF30, ?yTTrF30⟩) (by assumption) ?rTTrF30
        case hiTTrF30 => (simp only [List.getElem?_toArray, List.getElem?_cons_succ, List.getElem?_cons_zero]; try rfl)
        case wTTrF30 => rfl
        case yTTrF30 => (intro w hSw; (try dsimp only at hSw); go_simp; (try with_reducible rfl))
        (try simp only [Act.put, List.setIfInBounds_toArray, List.set_cons_zero, List.set_cons_succ])
        refine wpAnyH_done (by kernel_rfl) ?_ _
        refine NoPanic.normal ?_
        go_wp2_with fail
        go_ret
        exact ⟨rfl, K3.out.trans' (KW9.out.trans' KF.out)⟩
      · refine wp_region_noPanic ?_
        refine wp_region_held_drew (S := (fun W' : World => (((W'.cell? ⟨B, 0, none⟩ = some (.int .i64 k) ∧ W'.cell? ⟨B, 1, none⟩ = some (.int .i64 f) ∧ W'.cell? ⟨B, 2, none⟩ = some (.int .i64 t) ∧ W'.cell? ⟨B, 3, none⟩ = some (.int .i64 d) ∧ W'.cell? ⟨B, 4, none⟩ = some (.int .i64 n) ∧ W'.cell? ⟨B, 5, none⟩ = some (.bool y)) ∧ (W'.cell? ⟨C, 0, none⟩ = some (.int .i64 qk) ∧ W'.cell? ⟨C, 1, none⟩ = some (.int .i64 qf) ∧ W'.cell? ⟨C, 2, none⟩ = some (.int .i64 qt) ∧ W'.cell? ⟨C, 3, none⟩ = some (.int .i64 qd) ∧ W'.cell? ⟨C, 4, none⟩ = some (.int .i64 qn) ∧ W'.cell? ⟨C, 5, none⟩ = some (.bool qy))) ∧ (W'.cell? ⟨D, 0, none⟩ = some (.int .i64 k) ∧ W'.cell? ⟨D, 1, none⟩ = some (.int .i64 f) ∧ W'.cell? ⟨D, 2, none⟩ = some (.int .i64 t) ∧ W'.cell? ⟨D, 3, none⟩ = some (.int .i64 d) ∧ W'.cell? ⟨D, 4, none⟩ = some (.int .i64 n) ∧ W'.cell? ⟨D, 5, none⟩ = some (.bool y))) ∧ (convert 24 9 (.slice (some ⟨gP, 0, none⟩) 21 cpP)).run Tryz.prog W' = .ok (.string (bstr A)) W' ∧ (convert 24 9 (.slice (some ⟨gQ, 0, none⟩) 21 cpQ)).run Tryz.prog W' = .ok (.string (bstr A2)) W')) (by kernel_rfl) (hv0) (fun hHeld => ?_)
        refine wpAnyH_take (i := 0) (oi := ?oTTrT0) (v := ?vTTrT0) ?hiTTrT0 (by kernel_rfl) (by kernel_rfl) (by kernel_rfl) (fun _ _ _ h => h) (Or.inl ⟨?wTTrT0, ?yTTrT0⟩) (by assumption) ?rTTrT0
        case hiTTrT0 => (simp only [List.getElem?_toArray, List.getElem?_cons_zero]; try rfl)
        case wTTrT0 => rfl
        case yTTrT0 => (intro w hSw; (try dsimp only at hSw); go_simp; (try with_reducible rfl))
        (try simp only [Act.put, List.setIfInBounds_toArray, List.set_cons_zero, List.set_cons_succ])
        refine wpAnyH_take (i := 1) (oi := ?oTTrT1) (v := ?vTTrT1) ?hiTTrT1 (by kernel_rfl) (by kernel_rfl) (by kernel_rfl) (fun _ _ _ h => h) (Or.inl ⟨?wTTrT1, ?yTTrT1⟩) (by assumption) ?rTTrT1
        case hiTTrT1 => (simp only [List.getElem?_toArray, List.getElem?_cons_succ, List.getElem?_cons_zero]; try rfl)
        case wTTrT1 => rfl
        case yTTrT1 => (intro w hSw; (try dsimp only at hSw); go_simp; (try with_reducible rfl))
        (try simp only [Act.put, List.setIfInBounds_toArray, List.set_cons_zero, List.set_cons_succ])
        refine wpAnyH_take (i := 2) (oi := ?oTTrT2) (v := ?vTTrT2) ?hiTTrT2 (by kernel_rfl) (by kernel_rfl) (by kernel_rfl) (fun _ _ _ h => h) (Or.inl ⟨?wTTrT2, ?yTTrT2⟩) (by assumption) ?rTTrT2
        case hiTTrT2 => (simp only [List.getElem?_toArray, List.getElem?_cons_succ, List.getElem?_cons_zero]; try rfl)
        case wTTrT2 => rfl
        case yTTrT2 => (intro w hSw; (try dsimp only at hSw); go_simp; (try with_reducible rfl))
        (try simp only [Act.put, List.setIfInBounds_toArray, List.set_cons_zero, List.set_cons_succ])
        refine wpAnyH_ready (rs := [3]) (by kernel_rfl) (by simp) ?_
        refine AllReadyH.cons (o := ?oTTrT3) ?hiTTrT3 (fun K hK => ?_) AllReadyH.nil
        case hiTTrT3 => (simp only [List.getElem?_toArray, List.getElem?_cons_succ, List.getElem?_cons_zero]; try rfl)
        go_simp
        (go_at_call 19; refine (HBY.out _).mono ?_; rintro e wF ⟨vF, rfl, hvF, hkF, _⟩; have KF : Hid (Keep NoF W9 wF) := Lib.hid hkF.of_drew; have hcF := conv_own hvF; clear hkF hvF)
        go_wp2_with fail
        refine hK.out _ _ (And.intro (And.intro (HC.out _ (KW9.out.trans' KF.out)) (HCD.out _ (Keep.block KF.out D HLD.out.1 (fun f => f)))) (And.intro (HV.out _ KF.out) (HV2.out _ KF.out))) (fun hHeld => ?_)
        clear hK K
        (try simp only [Act.put, List.setIfInBounds_toArray, List.set_cons_zero, List.set_cons_succ])
        refine wpAnyH_ready (rs := [4]) (by kernel_rfl) (by simp) ?_
        refine AllReadyH.cons (o := ?oTTrT4) ?hiTTrT4 (fun K hK => ?_) AllReadyH.nil
        case hiTTrT4 => (simp only [List.getElem?_toArray, List.getElem?_cons_succ, List.getElem?_cons_zero]; try rfl)
        go_simp
        refine hK.out _ _ (And.intro (And.intro (HC.out _ (KW9.out.trans' KF.out)) (HCD.out _ (Keep.block KF.out D HLD.out.1 (fun f => f)))) (And.intro (HV.out _ KF.out) (HV2.out _ KF.out))) (fun hHeld => ?_)
        clear hK K
        (try simp only [Act.put, List.setIfInBounds_toArray, List.set_cons_zero, List.set_cons_succ])
        refine wpAnyH_take (i := 5) (oi := ?oTTrT5) (v := ?vTTrT5) ?hiTTrT5 (by kernel_rfl) (by kernel_rfl) (by kernel_rfl) (fun _ _ _ h => h) (Or.inl ⟨?wTTrT5, ?yTTrT5⟩) (by assumption) ?rTTrT5
        case hiTTrT5 => (simp only [List.getElem?_toArray, List.getElem?_cons_succ, List.getElem?_cons_zero]; try rfl)
        case wTTrT5 => rfl
        case yTTrT5 => (intro w hSw; (try dsimp only at hSw); go_simp; (try with_reducible rfl))
        (try simp only [Act.put, List.setIfInBounds_toArray, List.set_cons_zero, List.set_cons_succ])
        refine wpAnyH_take (i := 6) (oi := ?oTTrT6) (v := ?vTTrT6) ?hiTTrT6 (by kernel_rfl) (by kernel_rfl) (by kernel_rfl) (fun _ _ _ h => h) (Or.inl ⟨?wTTrT6, ?yTTrT6⟩) (by assumption) ?rTTrT6
        case hiTTrT6 => (simp only [List.getElem?_toArray, List.getElem?_cons_succ, List.getElem?_cons_zero]; try rfl)
        case wTTrT6 => rfl
        case yTTrT6 => (intro w hSw; (try dsimp only at hSw); go_simp; (try with_reducible rfl))
        (try simp only [Act.put, List.setIfInBounds_toArray, List.set_cons_zero, List.set_cons_succ])
        refine wpAnyH_take (i := 7) (oi := ?oTTrT7) (v := ?vTTrT7) ?hiTTrT7 (by kernel_rfl) (by kernel_rfl) (by kernel_rfl) (fun _ _ _ h => h) (Or.inl ⟨?wTTrT7, ?yTTrT7⟩) (by assumption) ?rTTrT7
        case hiTTrT7 => (simp only [List.getElem?_toArray, List.getElem?_cons_succ, List.getElem?_cons_zero]; try rfl)
        case wTTrT7 => rfl
        case yTTrT7 => (intro w hSw; (try dsimp only at hSw); go_simp; (try with_reducible rfl))
        (try simp only [Act.put, List.setIfInBounds_toArray, List.set_cons_zero, List.set_cons_succ])
        refine wpAnyH_take (i := 8) (oi := ?oTTrT8) (v := ?vTTrT8) ?hiTTrT8 (by kernel_rfl) (by kernel_rfl) (by kernel_rfl) (fun _ _ _ h => h) (Or.inl ⟨?wTTrT8, ?yTTrT8⟩) (by assumption) ?rTTrT8
        case hiTTrT8 => (simp only [List.getElem?_toArray, List.getElem?_cons_succ, List.getElem?_cons_zero]; try rfl)
        case wTTrT8 => rfl
        case yTTrT8 => (intro w hSw; (try dsimp only at hSw); go_simp; (try with_reducible rfl))
        (try simp only [Act.put, List.setIfInBounds_toArray, List.set_cons_zero, List.set_cons_succ])
        refine wpAnyH_take (i := 9) (oi := ?oTTrT9) (v := ?vTTrT9) ?hiTTrT9 (by kernel_rfl) (by kernel_rfl) (by kernel_rfl) (fun _ _ _ h => h) (Or.inl ⟨?wTTrT9, ?yTTrT9⟩) (by assumption) ?rTTrT9
        case hiTTrT9 => (simp only [List.getElem?_toArray, List.getElem?_cons_succ, List.getElem?_cons_zero]; try rfl)
        case wTTrT9 => rfl
        case yTTrT9 => (intro w hSw; (try dsimp only at hSw); go_simp; (try with_reducible rfl))
        (try simp only [Act.put, List.setIfInBounds_toArray, List.set_cons_zero, List.set_cons_succ])
        refine wpAnyH_take (i := 10) (oi := ?oTTrT10) (v := ?vTTrT10) ?hiTTrT10 (by kernel_rfl) (by kernel_rfl) (by kernel_rfl) (fun _ _ _ h => h) (Or.inl ⟨?wTTrT10, ?yTTrT10⟩) (by assumption) ?rTTrT10
        case hiTTrT10 => (simp only [List.getElem?_toArray, List.getElem?_cons_succ, List.getElem?_cons_zero]; try rfl)
        case wTTrT10 => rfl
        case yTTrT10 => (intro w hSw; (try dsimp only at hSw); go_simp; (try with_reducible rfl))
        (try simp only [Act.put, List.setIfInBounds_toArray, List.set_cons_zero, List.set_cons_succ])
        refine wpAnyH_take (i := 11) (oi := ?oTTrT11) (v := ?vTTrT11) ?hiTTrT11 (by kernel_rfl) (by kernel_rfl) (by kernel_rfl) (fun _ _ _ h => h) (Or.inl ⟨?wTTrT11, ?yTTrT11⟩) (by assumption) ?rTTrT11
        case hiTTrT11 => (simp only [List.getElem?_toArray, List.getElem?_cons_succ, List.getElem?_cons_zero]; try rfl)
        case wTTrT11 => rfl
        case yTTrT11 => (intro w hSw; (try dsimp only at hSw); go_simp; (try with_reducible rfl))
        (try simp only [Act.put, List.setIfInBounds_toArray, List.set_cons_zero, List.set_cons_succ])
        refine wpAnyH_take (i := 12) (oi := ?oTTrT12) (v := ?vTTrT12) ?hiTTrT12 (by kernel_rfl) (by kernel_rfl) (by kernel_rfl) (fun _ _ _ h => h) (Or.inl ⟨?wTTrT12, ?yTTrT12⟩) (by assumption) ?rTTrT12
        case hiTTrT12 => (simp only [List.getElem?_toArray, List.getElem?_cons_succ, List.getElem?_cons_zero]; try rfl)
        case wTTrT12 => rfl
        case yTTrT12 => (intro w hSw; (try dsimp only at hSw); go_simp; (try with_reducible rfl))
        (try simp only [Act.put, List.setIfInBounds_toArray, List.set_cons_zero, List.set_cons_succ])
        refine wpAnyH_take (i := 13) (oi := ?oTTrT13) (v := ?vTTrT13) ?hiTTrT13 (by kernel_rfl) (by kernel_rfl) (by kernel_rfl) (fun _ _ _ h => h) (Or.inl ⟨?wTTrT13, ?yTTrT13⟩) (by assumption) ?rTTrT13
        case hiTTrT13 => (simp only [List.getElem?_toArray, List.getElem?_cons_succ, List.getElem?_cons_zero]; try rfl)
        case wTTrT13 => rfl
        case yTTrT13 => (intro w hSw; (try dsimp only at hSw); go_simp; (try with_reducible rfl))
        (try simp only [Act.put, List.setIfInBounds_toArray, List.set_cons_zero, List.set_cons_succ])
        refine wpAnyH_take (i := 14) (oi := ?oTTrT14) (v := ?vTTrT14) ?hiTTrT14 (by kernel_rfl) (by kernel_rfl) (by kernel_rfl) (fun _ _ _ h => h) (Or.inl ⟨?wTTrT14, ?yTTrT14⟩) (by assumption) ?rTTrT14
        case hiTTrT14 => (simp only [List.getElem?_toArray, List.getElem?_cons_succ, List.getElem?_cons_zero]; try rfl)
        case wTTrT14 => rfl
        case yTTrT14 => (intro w hSw; (try dsimp only at hSw); go_simp; (try with_reducible rfl))
        (try simp only [Act.put, List.setIfInBounds_toArray, List.set_cons_zero, List.set_cons_succ])
        refine wpAnyH_take (i := 15) (oi := ?oTTrT15) (v := ?vTTrT15) ?hiTTrT15 (by kernel_rfl) (by kernel_rfl) (by kernel_rfl) (fun _ _ _ h => h) (Or.inl ⟨?wTTrT15, ?yTTrT15⟩) (by assumption) ?rTTrT15
        case hiTTrT15 => (simp only [List.getElem?_toArray, List.getElem?_cons_succ, List.getElem?_cons_zero]; try rfl)
        case wTTrT15 => rfl
        case yTTrT15 => (intro w hSw; (try dsimp only at hSw); go_simp; (try with_reducible rfl))
        (try simp only [Act.put, List.setIfInBounds_toArray, List.set_cons_zero, List.set_cons_succ])
        refine wpAnyH_take (i := 16) (oi := ?oTTrT16) (v := ?vTTrT16) ?hiTTrT16 (by kernel_rfl) (by kernel_rfl) (by kernel_rfl) (fun _ _ _ h => h) (Or.inl ⟨?wTTrT16, ?yTTrT16⟩) (by assumption) ?rTTrT16
        case hiTTrT16 => (simp only [List.getElem?_toArray, List.getElem?_cons_succ, List.getElem?_cons_zero]; try rfl)
        case wTTrT16 => rfl
        case yTTrT16 => (intro w hSw; (try dsimp only at hSw); go_simp; (try with_reducible rfl))
        (try simp only [Act.put, List.setIfInBounds_toArray, List.set_cons_zero, List.set_cons_succ])
        refine wpAnyH_take (i := 17) (oi := ?oTTrT17) (v := ?vTTrT17) ?hiTTrT17 (by kernel_rfl) (by kernel_rfl) (by kernel_rfl) (fun _ _ _ h => h) (Or.inl ⟨?wTTrT17, ?yTTrT17⟩) (by assumption) ?rTTrT17
        case hiTTrT17 => (simp only [List.getElem?_toArray, List.getElem?_cons_succ, List.getElem?_cons_zero]; try rfl)
        case wTTrT17 => rfl
        case yTTrT17 => (intro w hSw; (try dsimp only at hSw); go_simp; (try with_reducible rfl))
        (try simp only [Act.put, List.setIfInBounds_toArray, List.set_cons_zero, List.set_cons_succ])
        refine wpAnyH_take (i := 18) (oi := ?oTTrT18) (v := ?vTTrT18) ?hiTTrT18 (by kernel_rfl) (by kernel_rfl) (by kernel_rfl) (fun _ _ _ h => h) (Or.inl ⟨?wTTrT18, ?yTTrT18⟩) (by assumption) ?rTTrT18
        case hiTTrT18 => (simp only [List.getElem?_toArray, List.getElem?_cons_succ, List.getElem?_cons_zero]; try rfl)
        case wTTrT18 => rfl
        case yTTrT18 => (intro w hSw; (try dsimp only at hSw); go_simp; (try with_reducible rfl))
        (try simp only [Act.put, List.setIfInBounds_toArray, List.set_cons_zero, List.set_cons_succ])
        refine wpAnyH_take (i := 19) (oi := ?oTTrT19) (v := ?vTTrT19) ?hiTTrT19 (by kernel_rfl) (by kernel_rfl) (by kernel_rfl) (fun _ _ _ h => h) (Or.inl ⟨?wTTrT19, ?yTTrT19⟩) (by assumption) ?rTTrT19
        case hiTTrT19 => (simp only [List.getElem?_toArray, List.getElem?_cons_succ, List.getElem?_cons_zero]; try rfl)
        case wTTrT19 => rfl
        case yTTrT19 => (intro w hSw; (try dsimp only at hSw); go_simp; (try with_reducible rfl))
        (try simp only [Act.put, List.setIfInBounds_toArray, List.set_cons_zero, List.set_cons_succ])
        refine wpAnyH_take (i := 20) (oi := ?oTTrT20) (v := ?vTTrT20) ?hiTTrT20 (by kernel_rfl) (by kernel_rfl) (by kernel_rfl) (fun _ _ _ h => h) (Or.inl ⟨?wTTrT20, ?yTTrT20⟩) (by assumption) ?rTTrT20
        case hiTTrT20 => (simp only [List.getElem?_toArray, List.getElem?_cons_succ, List.getElem?_cons_zero]; try rfl)
        case wTTrT20 => rfl
        case yTTrT20 => (intro w hSw; (try dsimp only at hSw); go_simp; (try with_reducible rfl))
        (try simp only [Act.put, List.setIfInBounds_toArray, List.set_cons_zero, List.set_cons_succ])
        refine wpAnyH_take (i := 21) (oi := ?oTTrT21) (v := ?vTTrT21) ?hiTTrT21 (by kernel_rfl) (by kernel_rfl) (by kernel_rfl) (fun _ _ _ h => h) (Or.inl ⟨?wTTrT21, ?yTTrT21⟩) (by assumption) ?rTTrT21
        case hiTTrT21 => (simp only [List.getElem?_toArray, List.getElem?_cons_succ, List.getElem?_cons_zero]; try rfl)
        case wTTrT21 => rfl
        case yTTrT21 => (intro w hSw; (try dsimp only at hSw); go_simp; (try with_reducible rfl))
        (try simp only [Act.put, List.setIfInBounds_toArray, List.set_cons_zero, List.set_cons_succ])
        refine wpAnyH_take (i := 22) (oi := ?oTTrT22) (v := ?vTTrT22) ?hiTTrT22 (by kernel_rfl) (by kernel_rfl) (by kernel_rfl) (fun _ _ _ h => h) (Or.inl ⟨?wTTrT22, ?yTTrT22⟩) (by assumption) ?rTTrT22
        case hiTTrT22 => (simp only [List.getElem?_toArray, List.getElem?_cons_succ, List.getElem?_cons_zero]; try rfl)
        case wTTrT22 => rfl
        case yTTrT22 => (intro w hSw; (try dsimp only at hSw); go_simp; (try with_reducible rfl))
        (try simp only [Act.put, List.setIfInBounds_toArray, List.set_cons_zero, List.set_cons_succ])
        refine wpAnyH_take (i := 23) (oi := ?oTTrT23) (v := ?vTTrT23) ?hiTTrT23 (by kernel_rfl) (by kernel_rfl) (by kernel_rfl) (fun _ _ _ h => h) (Or.inl ⟨?wTTrT23, ?yTTrT23⟩) (by assumption) ?rTTrT23
        case hiTTrT23 => (simp only [List.getElem?_toArray, List.getElem?_cons_succ, List.getElem?_cons_zero]; try rfl)
        case wTTrT23 => rfl
        case yTTrT23 => (intro w hSw; (try dsimp only at hSw); go_simp; (try with_reducible rfl))
        (try simp only [Act.put, List.setIfInBounds_toArray, List.set_cons_zero, List.set_cons_succ])
        refine wpAnyH_take (i := 24) (oi := ?oTTrT24) (v := ?vTTrT24) ?hiTTrT24 (by kernel_rfl) (by kernel_rfl) (by kernel_rfl) (fun _ _ _ h => h) (Or.inl ⟨?wTTrT24, ?yTTrT24⟩) (by assumption) ?rTTrT24
        case hiTTrT24 => (simp only [List.getElem?_toArray, List.getElem?_cons_succ, List.getElem?_cons_zero]; try rfl)
        case wTTrT24 => rfl
        case yTTrT24 => (intro w hSw; (try dsimp only at hSw); go_simp; (try with_reducible rfl))
        (try simp only [Act.put, List.setIfInBounds_toArray, List.set_cons_zero, List.set_cons_succ])
        refine wpAnyH_take (i := 25) (oi := ?oTTrT25) (v := ?vTTrT25) ?hiTTrT25 (by kernel_rfl) (by kernel_rfl) (by kernel_rfl) (fun _ _ _ h => h) (Or.inl ⟨?wTTrT25, ?yTTrT25⟩) (by assumption) ?rTTrT25
        case hiTTrT25 => (simp only [List.getElem?_toArray, List.getElem?_cons_succ, List.getElem?_cons_zero]; try rfl)
        case wTTrT25 => rfl
        case yTTrT25 => (intro w hSw; (try dsimp only at hSw); go_simp; (try with_reducible rfl))
        (try simp only [Act.put, List.setIfInBounds_toArray, List.set_cons_zero, List.set_cons_succ])
        refine wpAnyH_take (i := 26) (oi := ?oTTrT26) (v := ?vTTrT26) ?hiTTrT26 (by kernel_rfl) (by kernel_rfl) (by kernel_rfl) (fun _ _ _ h => h) (Or.inl ⟨?wTTrT26, ?yTTrT26⟩) (by assumption) ?rTTrT26
        case hiTTrT26 => (simp only [List.getElem?_toArray, List.getElem?_cons_succ, List.getElem?_cons_zero]; try rfl)
        case wTTrT26 => rfl
        case yTTrT26 => (intro w hSw; (try dsimp only at hSw); go_simp; refine (HEQ.out _).trans ?_; rw [if_pos trivial])
        (try simp only [Act.put, List.setIfInBounds_toArray, List.set_cons_zero, List.set_cons_succ])
        refine wpAnyH_take (i := 27) (oi := ?oTTrT27) (v := ?vTTrT27) ?hiTTrT27 (by kernel_rfl) (by kernel_rfl) (by kernel_rfl) (fun _ _ _ h => h) (Or.inl ⟨?wTTrT27, ?yTTrT27⟩) (by assumption) ?rTTrT27
        case hiTTrT27 => (simp only [List.getElem?_toArray, List.getElem?_cons_succ, List.getElem?_cons_zero]; try rfl)
        case wTTrT27 => rfl
        case yTTrT27 => (intro w hSw; (try dsimp only at hSw); go_simp; (try with_reducible rfl))
        (try simp only [Act.put, List.setIfInBounds_toArray, List.set_cons_zero, List.set_cons_succ])
        refine wpAnyH_take (i := 28) (oi := ?oTTrT28) (v := ?vTTrT28) ?hiTTrT28 (by kernel_rfl) (by kernel_rfl) (by kernel_rfl) (fun _ _ _ h => h) (Or.inl ⟨?wTTrT28, ?yTTrT28⟩) (by assumption) ?rTTrT28
        case hiTTrT28 => (simp only [List.getElem?_toArray, List.getElem?_cons_succ, List.getElem?_cons_zero]; try rfl)
        case wTTrT28 => rfl
        case yTTrT28 => (intro w hSw; (try dsimp only at hSw); go_simp; (try with_reducible rfl))
        (try simp only [Act.put, List.setIfInBounds_toArray, List.set_cons_zero, List.set_cons_succ])
        refine wpAnyH_take (i := 29) (oi := ?oTTrT29) (v := ?vTTrT29) ?hiTTrT29 (by kernel_rfl) (by kernel_rfl) (by kernel_rfl) (fun _ _ _ h => h) (Or.inl ⟨?wTTrT29, ?yTTrT29⟩) (by assumption) ?rTTrT29
        case hiTTrT29 => (simp only [List.getElem?_toArray, List.getElem?_cons_succ, List.getElem?_cons_zero]; try rfl)
        case wTTrT29 => rfl
        case yTTrT29 => (intro w hSw; (try dsimp only at hSw); go_simp; (try with_reducible rfl))
        (try simp only [Act.put, List.setIfInBounds_toArray, List.set_cons_zero, List.set_cons_succ])
        refine wpAnyH_take (i := 30) (oi := ?oTTrT30) (v := ?vTTrT30) ?hiTTrT30 (by kernel_rfl) (by kernel_rfl) (by kernel_rfl) (fun _ _ _ h => h) (Or.inl ⟨?wTTrT30, ?yTTrT30⟩) (by assumption) ?rTTrT30
        case hiTTrT30 => (simp only [List.getElem?_toArray, List.getElem?_cons_succ, List.getElem?_cons_zero]; try rfl)
        case wTTrT30 => rfl
        case yTTrT30 => (intro w hSw; (try dsimp only at hSw); go_simp; (try with_reducible rfl))
        (try simp only [Act.put, List.setIfInBounds_toArray, List.set_cons_zero, List.set_cons_succ])
        refine wpAnyH_done (by kernel_rfl) ?_ _
        refine NoPanic.normal ?_
        go_wp2_with fail
        go_ret
        exact ⟨rfl, K3.out.trans' (KW9.out.trans' KF.out)⟩

set_option linter.unusedVariables false
set_option maxRecDepth 100000 in
theorem lifted (os : Os) (started : os.Started) (H : Type) (enc : TypeId × Value → H) :
    ReturnsInHanded {} Tryz.checked os 3 .any (Rows.wireAllSpec.pre6 enc Tryz.prog Tryz.f3 Rows.wireAllRow.domain false) (Rows.wireAllSpec.post enc Tryz.prog Tryz.f3 false true false false) := by
  refine returnsInHanded_of_change (C := Tryz.checked) own started (by kernel_rfl) Tryz.func3
    (ChangeSpec.witness6 (enc := enc) (C := Tryz.checked) false ⟨#[], #[.agg #[.int .i64 0, .int .i64 0, .int .i64 0, .int .i64 0, .int .i64 0, .bool false], .agg #[.int .i64 0, .int .i64 0, .int .i64 0, .int .i64 0, .int .i64 0, .bool false], .slice none 0 0], []⟩ 8 (by kernel_rfl) (by kernel_rfl) (by kernel_rfl) (by kernel_rfl)) ?_
  intro W base args ds gs before hval0 hW hcnd _
  have hval : ∀ (j : Nat) t v, Tryz.f3.params[j]? = some t → args[j]? = some v → Value.okWide Tryz.prog W .any base t v := hval0
  have hW' := hW
  obtain ⟨p, q, hA0, hV, rfl, hfz, hnd⟩ := hW
  have hA : DataW.TrodAll enc Tryz.prog W 0 (fun _ => true) true Tryz.f3.params.toList args.toList ds p := hA0
  rw [Tryz.params3] at hA hval
  obtain ⟨v0, vs0, d0, ds0, p0, q0, hargs, rfl, rfl, h0, r0⟩ := trodAll_cons hA
  obtain ⟨v1, vs1, d1, ds1, p1, q1, rfl, rfl, rfl, h1, r1⟩ := trodAll_cons r0
  obtain ⟨v2, vs2, d2, ds2, p2, q2, rfl, rfl, rfl, h2, r2⟩ := trodAll_cons r1
  obtain ⟨rfl, rfl, rfl⟩ := trodAll_nil r2
  obtain rfl : args = #[v0, v1, v2] := by cases args; simp_all
  obtain ⟨rfl, rfl⟩ := trodVars_none hV
  have k0 := h0
  have lt0 : ∀ x ∈ p0, x.block < W.heap.size := by obtain ⟨m, hm⟩ := k0; exact DataW.trod_lt m _ _ _ hm
  obtain ⟨z0, rfl, w0⟩ := open_arg0 W base (hval 0 23 v0 rfl rfl) h0
  have k1 := h1
  have lt1 : ∀ x ∈ p1, x.block < W.heap.size := by obtain ⟨m, hm⟩ := k1; exact DataW.trod_lt m _ _ _ hm
  obtain ⟨z1, rfl, w1⟩ := open_arg1 W base (hval 1 23 v1 rfl rfl) h1
  obtain ⟨a2, len2, cap2, rfl⟩ := okWide_slice Tryz.underlying24 (hval 2 24 v2 rfl rfl)
  have k2 := h2
  have lt2 : ∀ x ∈ p2, x.block < W.heap.size := by obtain ⟨m, hm⟩ := k2; exact DataW.trod_lt m _ _ _ hm
  obtain ⟨z2, w2⟩ : ∃ zs, IsRow .u8 W a2 len2 cap2 zs := by
    obtain ⟨fuel, hf⟩ := h2
    rcases open_ints Tryz.underlying24 Tryz.underlying5 (by kernel_rfl) hf with ⟨hcs, _⟩ | ⟨x, l, c, zs, hcs, _, hl, hm, hz, _, hcell, hwz⟩
    · simp [Value.cells] at hcs
      obtain ⟨rfl, rfl, rfl⟩ := hcs
      exact ⟨[], .inl ⟨rfl, rfl, rfl, rfl⟩⟩
    · simp [Value.cells] at hcs
      obtain ⟨rfl, rfl, rfl⟩ := hcs
      exact ⟨zs, .inr ⟨_, rfl, hl, hm, by simpa using hz, hcell, hwz⟩⟩
  clear hA0 hval0
  refine (walk W z0 w0 z1 w1 a2 len2 cap2 z2 w2).mono fun e W' ⟨he, hk⟩ => ?_
  subst he
  have bel := Keep.below hk
  exact ⟨_, rfl, _, _, _, [], _, [], hW', trodAll_mk1 (shut_bool Tryz.underlying4 _), (trodAll_cons_mk (Below.trod laidOut (by kernel_rfl) (of_decide_eq_true (by kernel_rfl)) k0 bel lt0) (trodAll_cons_mk (Below.trod laidOut (by kernel_rfl) (of_decide_eq_true (by kernel_rfl)) k1 bel lt1) (trodAll_cons_mk (Below.trod laidOut (by kernel_rfl) (of_decide_eq_true (by kernel_rfl)) k2 bel lt2) trodAll_mk0))), rfl, bel.frame _, fun h => by cases h⟩

theorem over : Rows.wireAllRow.holds Tryz.pinned (OpenSpec.ofChange Rows.wireAllSpec) :=
  OpenClaim.holds_of_wide 3 Tryz.f3 rfl rfl rfl rfl rfl rfl rfl ⟨rfl, rfl, rfl, rfl, rfl⟩ rfl rfl rfl rfl rfl (by kernel_rfl) Tryz.func3 (by kernel_rfl)
    (of_decide_eq_true (by kernel_rfl)) (by unfold Func.isWrapper; rw [if_neg (of_decide_eq_false (by kernel_rfl))]; exact ⟨rfl, rfl⟩)
    (fun os started H enc _ => lifted os started H enc)

/-- The statement. -/
theorem proved : Rows.WireAllSaid := over
#print axioms proved
end Go.Proofs.YtlabhbjampkhpaaGreat.wireAll
