/- NetTwice: the law returns true and changes nothing that was there. No conditions. -/
import Derived.Test.YtlabhbjampkhpaaGreatNS15
import Derived.Deep.CutRange
import Derived.Test.YtlabhbjampkhpaaGreatRows
import Derived.WalkKit
import Derived.ProofKit
import Derived.OpenShut
import Derived.ShutString
import Derived.ChangeOld
import Derived.Below
namespace Go.Proofs.YtlabhbjampkhpaaGreat.netTwice
open Go Go.ChangeShapes Go.WideShapes Go.ChangeAt Go.RowKit
open Go.ChangeMaps (open_string shut_string)

theorem own : ownKnob Tryz.prog.godebug = none := by kernel_rfl
theorem laidOut : laidOutB Tryz.prog = true := by kernel_rfl

open Go.Proofs Go.RowKit
set_option maxRecDepth 40000 in
theorem open_arg0 {H : Type} {enc : TypeId × Value → H} {r : Reach} {b0 : Nat} {v : Value} {d : DataW H} {p : List MemPlace} (W : World) (_base : Nat)
    (hv : Value.okWide Tryz.prog W r b0 23 v) (h : DataW.Trod enc Tryz.prog W 0 (fun _ => true) true 23 v d p) : ∃ z : PackV, v = packVal z ∧ z.Ok := open_packet hv h
set_option maxRecDepth 40000 in
theorem open_arg1 {H : Type} {enc : TypeId × Value → H} {r : Reach} {b0 : Nat} {v : Value} {d : DataW H} {p : List MemPlace} (W : World) (_base : Nat)
    (hv : Value.okWide Tryz.prog W r b0 23 v) (h : DataW.Trod enc Tryz.prog W 0 (fun _ => true) true 23 v d p) : ∃ z : PackV, v = packVal z ∧ z.Ok := open_packet hv h
theorem take_head (p : PackV) (tl : List PackV) : lookP (p :: tl) 0 = p ∧ inP (p :: tl) 0 = true ∧ takeP (p :: tl) 0 = tl := by
  have h : inP (p :: tl) 0 = true := by unfold inP; simp
  refine ⟨rfl, h, ?_⟩
  unfold takeP
  rw [h]; rfl
theorem head_or {ps : List PackV} {P Q : PackV} {x y : Nat} (h : ps.Perm (List.replicate x P ++ List.replicate y Q)) (hpos : 0 < x + y) :
    (∃ tl, ps = P :: tl ∧ 0 < x ∧ tl.Perm (List.replicate (x - 1) P ++ List.replicate y Q)) ∨ (∃ tl, ps = Q :: tl ∧ 0 < y ∧ tl.Perm (List.replicate x P ++ List.replicate (y - 1) Q)) := by
  cases ps with
  | nil => have := h.length_eq; simp at this; omega
  | cons a tl =>
    have ha : a ∈ List.replicate x P ++ List.replicate y Q := h.mem_iff.1 (by simp)
    rcases List.mem_append.1 ha with h1 | h1
    · obtain ⟨h2, rfl⟩ := List.mem_replicate.1 h1
      obtain ⟨x', rfl⟩ : ∃ x', x = x' + 1 := ⟨x - 1, by omega⟩
      refine .inl ⟨tl, rfl, by omega, ?_⟩
      rw [List.replicate_succ, List.cons_append] at h
      exact h.cons_inv
    · obtain ⟨h2, rfl⟩ := List.mem_replicate.1 h1
      obtain ⟨y', rfl⟩ : ∃ y', y = y' + 1 := ⟨y - 1, by omega⟩
      refine .inr ⟨tl, rfl, by omega, ?_⟩
      rw [List.replicate_succ] at h
      exact (h.trans List.perm_middle).cons_inv
theorem pk_inj {p q : PackV} (h : packVal p = packVal q) : p = q := by
  obtain ⟨a0, a1, a2, a3, a4, a5⟩ := p
  obtain ⟨b0, b1, b2, b3, b4, b5⟩ := q
  simp [packVal] at h
  obtain ⟨rfl, rfl, rfl, rfl, rfl, rfl⟩ := h
  rfl
theorem sent_ok {p : PackV} {ps : List PackV} (hp : packB p = true) (hl : ps.length < 400) : sentB p ps = true ∧ sendP p ps = insP p ps := by
  have h : sentB p ps = true := by unfold sentB; rw [hp]; simp; omega
  exact ⟨h, by unfold sendP; rw [h]; rfl⟩
set_option maxHeartbeats 16000000 in
set_option maxRecDepth 8000 in
theorem walk (w : World) (P : PackV) (hp : P.Ok) (Q : PackV) (hq : Q.Ok) (n0 : Int) (hn : (Lit.int .i64 n0).wf = true) (m0 : Int) (hm : (Lit.int .i64 m0).wf = true) :
    Calls Tryz.prog 10 #[packVal P, packVal Q, .int .i64 n0, .int .i64 m0] w fun e w' => e = .returned (.bool true) ∧ Keep NoF w w' := by
  have bn := bounds_i64 hn
  have bm := bounds_i64 hm
  have HOK := Lib.hid hp; have HOK2 := Lib.hid hq
  clear hp hq hn hm
  obtain ⟨k, f, t, d, n, y, hP⟩ : ∃ k f t d n y, P = (⟨k, f, t, d, n, y⟩ : PackV) := ⟨_, _, _, _, _, _, rfl⟩
  obtain ⟨qk, qf, qt, qd, qn, qy, hQ⟩ : ∃ k f t d n y, Q = (⟨k, f, t, d, n, y⟩ : PackV) := ⟨_, _, _, _, _, _, rfl⟩
  have HPV : Hid (packVal P = .agg #[.int .i64 k, .int .i64 f, .int .i64 t, .int .i64 d, .int .i64 n, .bool y]) := by rw [hP]; exact Lib.hid rfl
  have HQV : Hid (packVal Q = .agg #[.int .i64 qk, .int .i64 qf, .int .i64 qt, .int .i64 qd, .int .i64 qn, .bool qy]) := by rw [hQ]; exact Lib.hid rfl
  rw [HPV.out, HQV.out]
  have HRP : Hid (∀ W, Calls Tryz.prog 16 #[.agg #[.int .i64 k, .int .i64 f, .int .i64 t, .int .i64 d, .int .i64 n, .bool y]] W fun e w' => e = .returned (.bool (packB P)) ∧ Keep NoF W w') := Lib.hid fun W => by rw [← HPV.out]; exact rpacket_any P W HOK.out
  have HRQ : Hid (∀ W, Calls Tryz.prog 16 #[.agg #[.int .i64 qk, .int .i64 qf, .int .i64 qt, .int .i64 qd, .int .i64 qn, .bool qy]] W fun e w' => e = .returned (.bool (packB Q)) ∧ Keep NoF W w') := Lib.hid fun W => by rw [← HQV.out]; exact rpacket_any Q W HOK2.out
  have heq := fun W => eqPk P Q W
  have heq2 := fun W => eqPk Q P W
  rw [HPV.out, HQV.out] at heq heq2
  have HEQ := Lib.hid heq; have HEQ2 := Lib.hid heq2
  clear hP hQ heq heq2
  go_enter Tryz.func10, Tryz.ntmps10
  obtain ⟨B, hhB⟩ : ∃ B, w.heap.size = B := ⟨_, rfl⟩
  obtain ⟨C, hhC⟩ : ∃ C, B + 1 = C := ⟨_, rfl⟩
  go_upto_region 1 with fail
  have hb := heap_new w (.cells #[.int .i64 k, .int .i64 f, .int .i64 t, .int .i64 d, .int .i64 n, .bool y] 23 (0, 0))
  have hk1 := keep_alloc w (.cells #[.int .i64 k, .int .i64 f, .int .i64 t, .int .i64 d, .int .i64 n, .bool y] 23 (0, 0))
  have hs1 := size_alloc w (.cells #[.int .i64 k, .int .i64 f, .int .i64 t, .int .i64 d, .int .i64 n, .bool y] 23 (0, 0))
  have hc := heap_new (w.alloc (.cells #[.int .i64 k, .int .i64 f, .int .i64 t, .int .i64 d, .int .i64 n, .bool y] 23 (0, 0))) (.cells #[.int .i64 qk, .int .i64 qf, .int .i64 qt, .int .i64 qd, .int .i64 qn, .bool qy] 23 (0, 0))
  have hk2 := keep_alloc (w.alloc (.cells #[.int .i64 k, .int .i64 f, .int .i64 t, .int .i64 d, .int .i64 n, .bool y] 23 (0, 0))) (.cells #[.int .i64 qk, .int .i64 qf, .int .i64 qt, .int .i64 qd, .int .i64 qn, .bool qy] 23 (0, 0))
  have hb2 : ((w.alloc (.cells #[.int .i64 k, .int .i64 f, .int .i64 t, .int .i64 d, .int .i64 n, .bool y] 23 (0, 0))).alloc (.cells #[.int .i64 qk, .int .i64 qf, .int .i64 qt, .int .i64 qd, .int .i64 qn, .bool qy] 23 (0, 0))).heap[w.heap.size]? = some (.cells #[.int .i64 k, .int .i64 f, .int .i64 t, .int .i64 d, .int .i64 n, .bool y] 23 (0, 0)) := by
    rw [hk2.block _ (lt_of_heap hb) (fun f => f)]; exact hb
  rw [hs1, hhB, hhC] at hc
  rw [hhB] at hb2
  have K0 := Lib.hid (hk1.trans' hk2)
  show Code.wp _ _ _ _ ((w.alloc (.cells #[.int .i64 k, .int .i64 f, .int .i64 t, .int .i64 d, .int .i64 n, .bool y] 23 (0, 0))).alloc (.cells #[.int .i64 qk, .int .i64 qf, .int .i64 qt, .int .i64 qd, .int .i64 qn, .bool qy] 23 (0, 0)))
  generalize (w.alloc (.cells #[.int .i64 k, .int .i64 f, .int .i64 t, .int .i64 d, .int .i64 n, .bool y] 23 (0, 0))).alloc (.cells #[.int .i64 qk, .int .i64 qf, .int .i64 qt, .int .i64 qd, .int .i64 qn, .bool qy] 23 (0, 0)) = W0 at hb2 hc K0 ⊢
  (try rw [hhB])
  (try rw [hhC])
  have HC : Hid (∀ W, Keep NoF W0 W → (W.cell? ⟨B, 0, none⟩ = some (.int .i64 k) ∧ W.cell? ⟨B, 1, none⟩ = some (.int .i64 f) ∧ W.cell? ⟨B, 2, none⟩ = some (.int .i64 t) ∧ W.cell? ⟨B, 3, none⟩ = some (.int .i64 d) ∧ W.cell? ⟨B, 4, none⟩ = some (.int .i64 n) ∧ W.cell? ⟨B, 5, none⟩ = some (.bool y)) ∧ (W.cell? ⟨C, 0, none⟩ = some (.int .i64 qk) ∧ W.cell? ⟨C, 1, none⟩ = some (.int .i64 qf) ∧ W.cell? ⟨C, 2, none⟩ = some (.int .i64 qt) ∧ W.cell? ⟨C, 3, none⟩ = some (.int .i64 qd) ∧ W.cell? ⟨C, 4, none⟩ = some (.int .i64 qn) ∧ W.cell? ⟨C, 5, none⟩ = some (.bool qy))) := Lib.hid fun W hW => by
    have e1 := (hW.block B (lt_of_heap hb2) (fun f => f)).trans hb2
    have e2 := (hW.block C (lt_of_heap hc) (fun f => f)).trans hc
    refine ⟨⟨?_, ?_, ?_, ?_, ?_, ?_⟩, ⟨?_, ?_, ?_, ?_, ?_, ?_⟩⟩
    all_goals (first | (rw [cell_of_heap e1]; rfl) | (rw [cell_of_heap e2]; rfl))
  clear hb hb2 hc hk1 hk2 hs1 hhB hhC
  go_wp2_with fail
  refine (begun15_any W0).mono ?_
  rintro e w1 ⟨rfl, hk⟩
  have K1 := Lib.hid hk; clear hk
  rcases hbp : packB P with _ | _
  · have hrp := HRP.out
    rw [hbp] at hrp
    have HRP2 := Lib.hid hrp
    clear hbp hrp
    obtain ⟨⟨b0, b1, b2, b3, b4, b5⟩, _⟩ := HC.out w1 K1.out
    go_wp2_with fail
    refine (HRP2.out w1).mono ?_
    rintro e w2 ⟨rfl, hk⟩
    have K2 := Lib.hid (K1.out.trans' hk); clear hk b0 b1 b2 b3 b4 b5
    go_wp2_with fail
    go_ret
    exact ⟨rfl, K0.out.trans' K2.out⟩
  have HBP := Lib.hid hbp
  have hrp := HRP.out
  rw [hbp] at hrp
  have HRP2 := Lib.hid hrp
  clear hbp hrp
  rcases hbq : packB Q with _ | _
  · have hrq := HRQ.out
    rw [hbq] at hrq
    have HRQ2 := Lib.hid hrq
    clear hbq hrq
    obtain ⟨⟨b0, b1, b2, b3, b4, b5⟩, _⟩ := HC.out w1 K1.out
    go_wp2_with fail
    refine (HRP2.out w1).mono ?_
    rintro e w2 ⟨rfl, hk⟩
    have K2 := Lib.hid (K1.out.trans' hk); clear hk b0 b1 b2 b3 b4 b5
    obtain ⟨_, c0, c1, c2, c3, c4, c5⟩ := HC.out w2 K2.out
    go_wp2_with fail
    refine (HRQ2.out w2).mono ?_
    rintro e w3 ⟨rfl, hk⟩
    have K3 := Lib.hid (K2.out.trans' hk); clear hk c0 c1 c2 c3 c4 c5
    go_wp2_with fail
    go_ret
    exact ⟨rfl, K0.out.trans' K3.out⟩
  have HBQ := Lib.hid hbq
  have hrq := HRQ.out
  rw [hbq] at hrq
  have HRQ2 := Lib.hid hrq
  clear hbq hrq
  go_upto_region 4 with fail
  go_cut [51] from 23 to 114 (fun v wx => v = .bool (eqP P Q || (decide (n0 < 0) || (decide (20 < n0) || (decide (m0 < 0) || decide (20 < m0))))) ∧ Keep NoF W0 wx)
  case first =>
    obtain ⟨⟨b0, b1, b2, b3, b4, b5⟩, _⟩ := HC.out w1 K1.out
    go_wp2_with fail
    refine (HRP2.out w1).mono ?_
    rintro e w2 ⟨rfl, hk⟩
    have K2 := Lib.hid (K1.out.trans' hk); clear hk b0 b1 b2 b3 b4 b5
    obtain ⟨_, c0, c1, c2, c3, c4, c5⟩ := HC.out w2 K2.out
    go_wp2_with fail
    refine (HRQ2.out w2).mono ?_
    rintro e w3 ⟨rfl, hk⟩
    have K3 := Lib.hid (K2.out.trans' hk); clear hk c0 c1 c2 c3 c4 c5
    obtain ⟨⟨b0, b1, b2, b3, b4, b5⟩, c0, c1, c2, c3, c4, c5⟩ := HC.out w3 K3.out
    by_cases e0 : k = qk
    · subst e0
      by_cases e1 : f = qf
      · subst e1
        by_cases e2 : t = qt
        · subst e2
          by_cases e3 : d = qd
          · subst e3
            by_cases e4 : n = qn
            · subst e4
              by_cases e5 : y = qy
              · subst e5
                have hv : (eqP P Q || (decide (n0 < 0) || (decide (20 < n0) || (decide (m0 < 0) || decide (20 < m0))))) = true := by
                  rw [pk_inj (HPV.out.trans HQV.out.symm), eqP_self]; rfl
                have HV := Lib.hid hv
                clear hv
                go_wp2_with fail
                go_meet
                exact ⟨by rw [HV.out], K3.out⟩
              · have he : eqP P Q = false := eqP_ne (fun e => by
                  have h := congrArg packVal e
                  rw [HPV.out, HQV.out] at h
                  simp at h
                  exact e5 h)
                have HE := Lib.hid he
                clear he
                by_cases h1 : n0 < 0
                · have hd1 : decide (n0 < 0) = true := by simp [h1]
                  have hv : (eqP P Q || (decide (n0 < 0) || (decide (20 < n0) || (decide (m0 < 0) || decide (20 < m0))))) = true := by rw [HE.out]; simp [h1]
                  have HV := Lib.hid hv
                  clear hv
                  go_wp2_with fail
                  go_meet
                  exact ⟨by rw [HV.out]; try (first | rfl | simp [h1]), K3.out⟩
                · have hd1 : decide (n0 < 0) = false := by simp [h1]
                  by_cases h2 : 20 < n0
                  · have hd2 : decide (20 < n0) = true := by simp [h2]
                    have hv : (eqP P Q || (decide (n0 < 0) || (decide (20 < n0) || (decide (m0 < 0) || decide (20 < m0))))) = true := by rw [HE.out]; simp [h1, h2]
                    have HV := Lib.hid hv
                    clear hv
                    go_wp2_with fail
                    go_meet
                    exact ⟨by rw [HV.out]; try (first | rfl | simp [h1, h2]), K3.out⟩
                  · have hd2 : decide (20 < n0) = false := by simp [h2]
                    by_cases h3 : m0 < 0
                    · have hd3 : decide (m0 < 0) = true := by simp [h3]
                      have hv : (eqP P Q || (decide (n0 < 0) || (decide (20 < n0) || (decide (m0 < 0) || decide (20 < m0))))) = true := by rw [HE.out]; simp [h1, h2, h3]
                      have HV := Lib.hid hv
                      clear hv
                      go_wp2_with fail
                      go_meet
                      exact ⟨by rw [HV.out]; try (first | rfl | simp [h1, h2, h3]), K3.out⟩
                    · have hd3 : decide (m0 < 0) = false := by simp [h3]
                      by_cases h4 : 20 < m0
                      · have hd4 : decide (20 < m0) = true := by simp [h4]
                        have hv : (eqP P Q || (decide (n0 < 0) || (decide (20 < n0) || (decide (m0 < 0) || decide (20 < m0))))) = true := by rw [HE.out]; simp [h1, h2, h3, h4]
                        have HV := Lib.hid hv
                        clear hv
                        go_wp2_with fail
                        go_meet
                        exact ⟨by rw [HV.out]; try (first | rfl | simp [h1, h2, h3, h4]), K3.out⟩
                      · have hd4 : decide (20 < m0) = false := by simp [h4]
                        have hv : (eqP P Q || (decide (n0 < 0) || (decide (20 < n0) || (decide (m0 < 0) || decide (20 < m0))))) = false := by rw [HE.out]; simp [h1, h2, h3, h4]
                        have HV := Lib.hid hv
                        clear hv
                        go_wp2_with fail
                        go_meet
                        exact ⟨by rw [HV.out]; try (first | rfl | simp [h1, h2, h3, h4]), K3.out⟩
            · have he : eqP P Q = false := eqP_ne (fun e => by
                have h := congrArg packVal e
                rw [HPV.out, HQV.out] at h
                simp at h
                exact e4 h.1)
              have HE := Lib.hid he
              clear he
              by_cases h1 : n0 < 0
              · have hd1 : decide (n0 < 0) = true := by simp [h1]
                have hv : (eqP P Q || (decide (n0 < 0) || (decide (20 < n0) || (decide (m0 < 0) || decide (20 < m0))))) = true := by rw [HE.out]; simp [h1]
                have HV := Lib.hid hv
                clear hv
                go_wp2_with fail
                go_meet
                exact ⟨by rw [HV.out]; try (first | rfl | simp [h1]), K3.out⟩
              · have hd1 : decide (n0 < 0) = false := by simp [h1]
                by_cases h2 : 20 < n0
                · have hd2 : decide (20 < n0) = true := by simp [h2]
                  have hv : (eqP P Q || (decide (n0 < 0) || (decide (20 < n0) || (decide (m0 < 0) || decide (20 < m0))))) = true := by rw [HE.out]; simp [h1, h2]
                  have HV := Lib.hid hv
                  clear hv
                  go_wp2_with fail
                  go_meet
                  exact ⟨by rw [HV.out]; try (first | rfl | simp [h1, h2]), K3.out⟩
                · have hd2 : decide (20 < n0) = false := by simp [h2]
                  by_cases h3 : m0 < 0
                  · have hd3 : decide (m0 < 0) = true := by simp [h3]
                    have hv : (eqP P Q || (decide (n0 < 0) || (decide (20 < n0) || (decide (m0 < 0) || decide (20 < m0))))) = true := by rw [HE.out]; simp [h1, h2, h3]
                    have HV := Lib.hid hv
                    clear hv
                    go_wp2_with fail
                    go_meet
                    exact ⟨by rw [HV.out]; try (first | rfl | simp [h1, h2, h3]), K3.out⟩
                  · have hd3 : decide (m0 < 0) = false := by simp [h3]
                    by_cases h4 : 20 < m0
                    · have hd4 : decide (20 < m0) = true := by simp [h4]
                      have hv : (eqP P Q || (decide (n0 < 0) || (decide (20 < n0) || (decide (m0 < 0) || decide (20 < m0))))) = true := by rw [HE.out]; simp [h1, h2, h3, h4]
                      have HV := Lib.hid hv
                      clear hv
                      go_wp2_with fail
                      go_meet
                      exact ⟨by rw [HV.out]; try (first | rfl | simp [h1, h2, h3, h4]), K3.out⟩
                    · have hd4 : decide (20 < m0) = false := by simp [h4]
                      have hv : (eqP P Q || (decide (n0 < 0) || (decide (20 < n0) || (decide (m0 < 0) || decide (20 < m0))))) = false := by rw [HE.out]; simp [h1, h2, h3, h4]
                      have HV := Lib.hid hv
                      clear hv
                      go_wp2_with fail
                      go_meet
                      exact ⟨by rw [HV.out]; try (first | rfl | simp [h1, h2, h3, h4]), K3.out⟩
          · have he : eqP P Q = false := eqP_ne (fun e => by
              have h := congrArg packVal e
              rw [HPV.out, HQV.out] at h
              simp at h
              exact e3 h.1)
            have HE := Lib.hid he
            clear he
            by_cases h1 : n0 < 0
            · have hd1 : decide (n0 < 0) = true := by simp [h1]
              have hv : (eqP P Q || (decide (n0 < 0) || (decide (20 < n0) || (decide (m0 < 0) || decide (20 < m0))))) = true := by rw [HE.out]; simp [h1]
              have HV := Lib.hid hv
              clear hv
              go_wp2_with fail
              go_meet
              exact ⟨by rw [HV.out]; try (first | rfl | simp [h1]), K3.out⟩
            · have hd1 : decide (n0 < 0) = false := by simp [h1]
              by_cases h2 : 20 < n0
              · have hd2 : decide (20 < n0) = true := by simp [h2]
                have hv : (eqP P Q || (decide (n0 < 0) || (decide (20 < n0) || (decide (m0 < 0) || decide (20 < m0))))) = true := by rw [HE.out]; simp [h1, h2]
                have HV := Lib.hid hv
                clear hv
                go_wp2_with fail
                go_meet
                exact ⟨by rw [HV.out]; try (first | rfl | simp [h1, h2]), K3.out⟩
              · have hd2 : decide (20 < n0) = false := by simp [h2]
                by_cases h3 : m0 < 0
                · have hd3 : decide (m0 < 0) = true := by simp [h3]
                  have hv : (eqP P Q || (decide (n0 < 0) || (decide (20 < n0) || (decide (m0 < 0) || decide (20 < m0))))) = true := by rw [HE.out]; simp [h1, h2, h3]
                  have HV := Lib.hid hv
                  clear hv
                  go_wp2_with fail
                  go_meet
                  exact ⟨by rw [HV.out]; try (first | rfl | simp [h1, h2, h3]), K3.out⟩
                · have hd3 : decide (m0 < 0) = false := by simp [h3]
                  by_cases h4 : 20 < m0
                  · have hd4 : decide (20 < m0) = true := by simp [h4]
                    have hv : (eqP P Q || (decide (n0 < 0) || (decide (20 < n0) || (decide (m0 < 0) || decide (20 < m0))))) = true := by rw [HE.out]; simp [h1, h2, h3, h4]
                    have HV := Lib.hid hv
                    clear hv
                    go_wp2_with fail
                    go_meet
                    exact ⟨by rw [HV.out]; try (first | rfl | simp [h1, h2, h3, h4]), K3.out⟩
                  · have hd4 : decide (20 < m0) = false := by simp [h4]
                    have hv : (eqP P Q || (decide (n0 < 0) || (decide (20 < n0) || (decide (m0 < 0) || decide (20 < m0))))) = false := by rw [HE.out]; simp [h1, h2, h3, h4]
                    have HV := Lib.hid hv
                    clear hv
                    go_wp2_with fail
                    go_meet
                    exact ⟨by rw [HV.out]; try (first | rfl | simp [h1, h2, h3, h4]), K3.out⟩
        · have he : eqP P Q = false := eqP_ne (fun e => by
            have h := congrArg packVal e
            rw [HPV.out, HQV.out] at h
            simp at h
            exact e2 h.1)
          have HE := Lib.hid he
          clear he
          by_cases h1 : n0 < 0
          · have hd1 : decide (n0 < 0) = true := by simp [h1]
            have hv : (eqP P Q || (decide (n0 < 0) || (decide (20 < n0) || (decide (m0 < 0) || decide (20 < m0))))) = true := by rw [HE.out]; simp [h1]
            have HV := Lib.hid hv
            clear hv
            go_wp2_with fail
            go_meet
            exact ⟨by rw [HV.out]; try (first | rfl | simp [h1]), K3.out⟩
          · have hd1 : decide (n0 < 0) = false := by simp [h1]
            by_cases h2 : 20 < n0
            · have hd2 : decide (20 < n0) = true := by simp [h2]
              have hv : (eqP P Q || (decide (n0 < 0) || (decide (20 < n0) || (decide (m0 < 0) || decide (20 < m0))))) = true := by rw [HE.out]; simp [h1, h2]
              have HV := Lib.hid hv
              clear hv
              go_wp2_with fail
              go_meet
              exact ⟨by rw [HV.out]; try (first | rfl | simp [h1, h2]), K3.out⟩
            · have hd2 : decide (20 < n0) = false := by simp [h2]
              by_cases h3 : m0 < 0
              · have hd3 : decide (m0 < 0) = true := by simp [h3]
                have hv : (eqP P Q || (decide (n0 < 0) || (decide (20 < n0) || (decide (m0 < 0) || decide (20 < m0))))) = true := by rw [HE.out]; simp [h1, h2, h3]
                have HV := Lib.hid hv
                clear hv
                go_wp2_with fail
                go_meet
                exact ⟨by rw [HV.out]; try (first | rfl | simp [h1, h2, h3]), K3.out⟩
              · have hd3 : decide (m0 < 0) = false := by simp [h3]
                by_cases h4 : 20 < m0
                · have hd4 : decide (20 < m0) = true := by simp [h4]
                  have hv : (eqP P Q || (decide (n0 < 0) || (decide (20 < n0) || (decide (m0 < 0) || decide (20 < m0))))) = true := by rw [HE.out]; simp [h1, h2, h3, h4]
                  have HV := Lib.hid hv
                  clear hv
                  go_wp2_with fail
                  go_meet
                  exact ⟨by rw [HV.out]; try (first | rfl | simp [h1, h2, h3, h4]), K3.out⟩
                · have hd4 : decide (20 < m0) = false := by simp [h4]
                  have hv : (eqP P Q || (decide (n0 < 0) || (decide (20 < n0) || (decide (m0 < 0) || decide (20 < m0))))) = false := by rw [HE.out]; simp [h1, h2, h3, h4]
                  have HV := Lib.hid hv
                  clear hv
                  go_wp2_with fail
                  go_meet
                  exact ⟨by rw [HV.out]; try (first | rfl | simp [h1, h2, h3, h4]), K3.out⟩
      · have he : eqP P Q = false := eqP_ne (fun e => by
          have h := congrArg packVal e
          rw [HPV.out, HQV.out] at h
          simp at h
          exact e1 h.1)
        have HE := Lib.hid he
        clear he
        by_cases h1 : n0 < 0
        · have hd1 : decide (n0 < 0) = true := by simp [h1]
          have hv : (eqP P Q || (decide (n0 < 0) || (decide (20 < n0) || (decide (m0 < 0) || decide (20 < m0))))) = true := by rw [HE.out]; simp [h1]
          have HV := Lib.hid hv
          clear hv
          go_wp2_with fail
          go_meet
          exact ⟨by rw [HV.out]; try (first | rfl | simp [h1]), K3.out⟩
        · have hd1 : decide (n0 < 0) = false := by simp [h1]
          by_cases h2 : 20 < n0
          · have hd2 : decide (20 < n0) = true := by simp [h2]
            have hv : (eqP P Q || (decide (n0 < 0) || (decide (20 < n0) || (decide (m0 < 0) || decide (20 < m0))))) = true := by rw [HE.out]; simp [h1, h2]
            have HV := Lib.hid hv
            clear hv
            go_wp2_with fail
            go_meet
            exact ⟨by rw [HV.out]; try (first | rfl | simp [h1, h2]), K3.out⟩
          · have hd2 : decide (20 < n0) = false := by simp [h2]
            by_cases h3 : m0 < 0
            · have hd3 : decide (m0 < 0) = true := by simp [h3]
              have hv : (eqP P Q || (decide (n0 < 0) || (decide (20 < n0) || (decide (m0 < 0) || decide (20 < m0))))) = true := by rw [HE.out]; simp [h1, h2, h3]
              have HV := Lib.hid hv
              clear hv
              go_wp2_with fail
              go_meet
              exact ⟨by rw [HV.out]; try (first | rfl | simp [h1, h2, h3]), K3.out⟩
            · have hd3 : decide (m0 < 0) = false := by simp [h3]
              by_cases h4 : 20 < m0
              · have hd4 : decide (20 < m0) = true := by simp [h4]
                have hv : (eqP P Q || (decide (n0 < 0) || (decide (20 < n0) || (decide (m0 < 0) || decide (20 < m0))))) = true := by rw [HE.out]; simp [h1, h2, h3, h4]
                have HV := Lib.hid hv
                clear hv
                go_wp2_with fail
                go_meet
                exact ⟨by rw [HV.out]; try (first | rfl | simp [h1, h2, h3, h4]), K3.out⟩
              · have hd4 : decide (20 < m0) = false := by simp [h4]
                have hv : (eqP P Q || (decide (n0 < 0) || (decide (20 < n0) || (decide (m0 < 0) || decide (20 < m0))))) = false := by rw [HE.out]; simp [h1, h2, h3, h4]
                have HV := Lib.hid hv
                clear hv
                go_wp2_with fail
                go_meet
                exact ⟨by rw [HV.out]; try (first | rfl | simp [h1, h2, h3, h4]), K3.out⟩
    · have he : eqP P Q = false := eqP_ne (fun e => by
        have h := congrArg packVal e
        rw [HPV.out, HQV.out] at h
        simp at h
        exact e0 h.1)
      have HE := Lib.hid he
      clear he
      by_cases h1 : n0 < 0
      · have hd1 : decide (n0 < 0) = true := by simp [h1]
        have hv : (eqP P Q || (decide (n0 < 0) || (decide (20 < n0) || (decide (m0 < 0) || decide (20 < m0))))) = true := by rw [HE.out]; simp [h1]
        have HV := Lib.hid hv
        clear hv
        go_wp2_with fail
        go_meet
        exact ⟨by rw [HV.out]; try (first | rfl | simp [h1]), K3.out⟩
      · have hd1 : decide (n0 < 0) = false := by simp [h1]
        by_cases h2 : 20 < n0
        · have hd2 : decide (20 < n0) = true := by simp [h2]
          have hv : (eqP P Q || (decide (n0 < 0) || (decide (20 < n0) || (decide (m0 < 0) || decide (20 < m0))))) = true := by rw [HE.out]; simp [h1, h2]
          have HV := Lib.hid hv
          clear hv
          go_wp2_with fail
          go_meet
          exact ⟨by rw [HV.out]; try (first | rfl | simp [h1, h2]), K3.out⟩
        · have hd2 : decide (20 < n0) = false := by simp [h2]
          by_cases h3 : m0 < 0
          · have hd3 : decide (m0 < 0) = true := by simp [h3]
            have hv : (eqP P Q || (decide (n0 < 0) || (decide (20 < n0) || (decide (m0 < 0) || decide (20 < m0))))) = true := by rw [HE.out]; simp [h1, h2, h3]
            have HV := Lib.hid hv
            clear hv
            go_wp2_with fail
            go_meet
            exact ⟨by rw [HV.out]; try (first | rfl | simp [h1, h2, h3]), K3.out⟩
          · have hd3 : decide (m0 < 0) = false := by simp [h3]
            by_cases h4 : 20 < m0
            · have hd4 : decide (20 < m0) = true := by simp [h4]
              have hv : (eqP P Q || (decide (n0 < 0) || (decide (20 < n0) || (decide (m0 < 0) || decide (20 < m0))))) = true := by rw [HE.out]; simp [h1, h2, h3, h4]
              have HV := Lib.hid hv
              clear hv
              go_wp2_with fail
              go_meet
              exact ⟨by rw [HV.out]; try (first | rfl | simp [h1, h2, h3, h4]), K3.out⟩
            · have hd4 : decide (20 < m0) = false := by simp [h4]
              have hv : (eqP P Q || (decide (n0 < 0) || (decide (20 < n0) || (decide (m0 < 0) || decide (20 < m0))))) = false := by rw [HE.out]; simp [h1, h2, h3, h4]
              have HV := Lib.hid hv
              clear hv
              go_wp2_with fail
              go_meet
              exact ⟨by rw [HV.out]; try (first | rfl | simp [h1, h2, h3, h4]), K3.out⟩
  case rest =>
   obtain ⟨rfl, hk3⟩ := hcut
   have K3 := Lib.hid hk3
   clear hk3
   obtain ⟨w3, rfl⟩ : ∃ W, W = wc := ⟨_, rfl⟩
   obtain ⟨bad, hbad⟩ : ∃ b, (eqP P Q || (decide (n0 < 0) || (decide (20 < n0) || (decide (m0 < 0) || decide (20 < m0))))) = b := ⟨_, rfl⟩
   rw [hbad]
   cases bad
   rotate_left
   · clear hbad
     go_wp2_with fail
     go_ret
     exact ⟨rfl, K0.out.trans' K3.out⟩
   simp only [Bool.or_eq_false_iff, decide_eq_false_iff_not] at hbad
   obtain ⟨he, h1, h2, h3, h4⟩ := hbad
   have hne : P ≠ Q := fun e => by rw [e, eqP_self] at he; cases he
   have he2 : eqP Q P = false := eqP_ne (fun e => hne e.symm)
   rw [he2] at HEQ2
   have HNE := Lib.hid hne
   clear he he2 hne
   obtain ⟨N, rfl⟩ : ∃ N : Nat, n0 = N := ⟨n0.toNat, by omega⟩
   obtain ⟨M, rfl⟩ : ∃ N : Nat, m0 = N := ⟨m0.toNat, by omega⟩
   have hN : N ≤ 20 := by omega
   have hM : M ≤ 20 := by omega
   clear h1 h2 h3 h4 bn bm
   go_wp2_with fail
   refine (ns_new W0 w3 K3.out).mono ?_
   rintro e w4 ⟨nb, rfl, hS⟩
   have HS := Lib.hid hS
   clear hS
   have HSP : Hid (∀ W ps, ps.length < 400 → NS W0 W nb ps → Calls Tryz.prog 21 #[.pointer (some ⟨nb, 0, none⟩), .agg #[.int .i64 k, .int .i64 f, .int .i64 t, .int .i64 d, .int .i64 n, .bool y]] W fun e w' => e = .returned (.bool true) ∧ NS W0 w' nb (insP P ps)) := Lib.hid fun W ps hl hW => by
     have h := ns_send W0 W nb P ps hW HOK.out
     rw [(sent_ok HBP.out hl).1, (sent_ok HBP.out hl).2, HPV.out] at h
     exact h
   have HSQ : Hid (∀ W ps, ps.length < 400 → NS W0 W nb ps → Calls Tryz.prog 21 #[.pointer (some ⟨nb, 0, none⟩), .agg #[.int .i64 qk, .int .i64 qf, .int .i64 qt, .int .i64 qd, .int .i64 qn, .bool qy]] W fun e w' => e = .returned (.bool true) ∧ NS W0 w' nb (insP Q ps)) := Lib.hid fun W ps hl hW => by
     have h := ns_send W0 W nb Q ps hW HOK2.out
     rw [(sent_ok HBQ.out hl).1, (sent_ok HBQ.out hl).2, HQV.out] at h
     exact h
   have HTP : Hid (∀ W tl, NS W0 W nb (P :: tl) → Calls Tryz.prog 25 #[.pointer (some ⟨nb, 0, none⟩), .int .i64 0] W fun e w' => e = .returned (.tuple #[.agg #[.int .i64 k, .int .i64 f, .int .i64 t, .int .i64 d, .int .i64 n, .bool y], .bool true]) ∧ NS W0 w' nb tl) := Lib.hid fun W tl hW => by
     have h := ns_take W0 W nb _ 0 hW (by decide)
     rw [(take_head P tl).1, (take_head P tl).2.1, (take_head P tl).2.2, HPV.out] at h
     exact h
   have HTQ : Hid (∀ W tl, NS W0 W nb (Q :: tl) → Calls Tryz.prog 25 #[.pointer (some ⟨nb, 0, none⟩), .int .i64 0] W fun e w' => e = .returned (.tuple #[.agg #[.int .i64 qk, .int .i64 qf, .int .i64 qt, .int .i64 qd, .int .i64 qn, .bool qy], .bool true]) ∧ NS W0 w' nb tl) := Lib.hid fun W tl hW => by
     have h := ns_take W0 W nb _ 0 hW (by decide)
     rw [(take_head Q tl).1, (take_head Q tl).2.1, (take_head Q tl).2.2, HQV.out] at h
     exact h
   go_wp2_with fail
   go_loopw [11] (fun iv wr => ∃ (i : Nat) (ps : List PackV), i ≤ N ∧ iv = .int .i64 i ∧ NS W0 wr nb ps ∧ ps.Perm (List.replicate i P ++ List.replicate 0 Q)) (fun iv _ => N - (intOf iv).toNat)
   case atStart => exact ⟨0, [], Nat.zero_le _, rfl, HS.out, List.Perm.refl _⟩
   case round =>
     obtain ⟨i, ps, hi, rfl, hS, hperm⟩ := hrel
     have HSi := Lib.hid hS; have HPM := Lib.hid hperm
     clear hS hperm
     obtain ⟨wq, rfl⟩ : ∃ W, W = wr := ⟨_, rfl⟩
     by_cases hlt : i < N
     · have hlt2 : (i : Int) < N := by omega
       have hl : ps.length < 400 := by have := HPM.out.length_eq; simp at this; omega
       obtain ⟨⟨b0, b1, b2, b3, b4, b5⟩, _⟩ := HC.out wq HSi.out.world
       go_wp2_with fail
       refine (HSP.out wq ps hl HSi.out).mono ?_
       rintro e w5 ⟨rfl, hS⟩
       have HS5 := Lib.hid hS
       clear hS b0 b1 b2 b3 b4 b5
       go_wp2_with fail
       go_roundw
       case rel => exact ⟨i + 1, insP P ps, by omega, by go_num, HS5.out, (insP_perm P ps).trans (List.Perm.cons P HPM.out)⟩
       case measure => simp [intOf]; omega
     · have hlt2 : ¬ (i : Int) < N := by omega
       have hiN : i = N := by omega
       subst hiN
       go_wp2_with fail
       go_loopw [12] (fun iv wr => ∃ (j : Nat) (ps : List PackV), j ≤ M ∧ iv = .int .i64 j ∧ NS W0 wr nb ps ∧ ps.Perm (List.replicate i P ++ List.replicate j Q)) (fun iv _ => M - (intOf iv).toNat)
       case atStart => exact ⟨0, ps, Nat.zero_le _, rfl, HSi.out, HPM.out⟩
       case round =>
         obtain ⟨j, ps2, hj, rfl, hS, hperm⟩ := hrel
         clear hlt2
         have HSj := Lib.hid hS; have HPM2 := Lib.hid hperm
         clear hS hperm
         by_cases hlt3 : j < M
         · have hlt4 : (j : Int) < M := by omega
           have hl : ps2.length < 400 := by have := HPM2.out.length_eq; simp at this; omega
           obtain ⟨_, c0, c1, c2, c3, c4, c5⟩ := HC.out wr HSj.out.world
           go_wp2_with fail
           refine (HSQ.out wr ps2 hl HSj.out).mono ?_
           rintro e w5 ⟨rfl, hS⟩
           have HS5 := Lib.hid hS
           clear hS c0 c1 c2 c3 c4 c5
           go_wp2_with fail
           go_roundw
           case rel => exact ⟨j + 1, insP Q ps2, by omega, by go_num, HS5.out, (insP_perm Q ps2).trans ((List.Perm.cons Q HPM2.out).trans (by rw [List.replicate_succ]; exact List.perm_middle.symm))⟩
           case measure => simp [intOf]; omega
         · have hlt4 : ¬ (j : Int) < M := by omega
           have hjM : j = M := by omega
           subst hjM
           obtain ⟨wq2, rfl⟩ : ∃ W, W = wr := ⟨_, rfl⟩
           go_wp2_with fail
           go_loopw [13, 14, 15] (fun av bv iv wr => ∃ (a b : Nat) (ps : List PackV), a ≤ i ∧ b ≤ j ∧ av = .int .i64 a ∧ bv = .int .i64 b ∧ iv = .int .i64 ((a + b : Nat) : Int) ∧ NS W0 wr nb ps ∧ ps.Perm (List.replicate (i - a) P ++ List.replicate (j - b) Q)) (fun _ _ iv _ => i + j - (intOf iv).toNat)
           case atStart => exact ⟨0, 0, ps2, Nat.zero_le _, Nat.zero_le _, rfl, rfl, rfl, HSj.out, HPM2.out⟩
           case round =>
             obtain ⟨a, b, ps3, ha, hb, rfl, rfl, rfl, hS, hperm⟩ := hrel
             have HSk := Lib.hid hS; have HPM3 := Lib.hid hperm
             clear hS hperm hlt4
             obtain ⟨x, hx⟩ : ∃ x, a + b = x := ⟨_, rfl⟩
             rw [hx]
             by_cases hlt5 : x < i + j
             · have hlt6 : (x : Int) < (i : Int) + j := by omega
               rcases head_or HPM3.out (by omega) with ⟨tl, rfl, hpos, hp2⟩ | ⟨tl, rfl, hpos, hp2⟩
               · have HP2 := Lib.hid hp2
                 clear hp2
                 go_wp2_with fail
                 refine (HTP.out wr tl HSk.out).mono ?_
                 rintro e w5 ⟨rfl, hS⟩
                 have HS5 := Lib.hid hS
                 obtain ⟨D, hhD⟩ : ∃ D, w5.heap.size = D := ⟨_, rfl⟩
                 go_upto_region 20 with fail
                 have hrD := heap_new w5 (.cells #[.int .i64 k, .int .i64 f, .int .i64 t, .int .i64 d, .int .i64 n, .bool y] 23 (0, 0))
                 have hkD := keep_alloc w5 (.cells #[.int .i64 k, .int .i64 f, .int .i64 t, .int .i64 d, .int .i64 n, .bool y] 23 (0, 0))
                 have hsD : (w5.alloc (.cells #[.int .i64 k, .int .i64 f, .int .i64 t, .int .i64 d, .int .i64 n, .bool y] 23 (0, 0))).heap.size = w5.heap.size + 1 := size_alloc _ _
                 show Code.wp _ _ _ _ (w5.alloc (.cells #[.int .i64 k, .int .i64 f, .int .i64 t, .int .i64 d, .int .i64 n, .bool y] 23 (0, 0)))
                 rw [hhD] at hrD hsD
                 generalize w5.alloc (.cells #[.int .i64 k, .int .i64 f, .int .i64 t, .int .i64 d, .int .i64 n, .bool y] 23 (0, 0)) = W6 at hrD hkD hsD ⊢
                 (try rw [hhD])
                 have HCD : Hid (∀ W : World, W.heap[D]? = W6.heap[D]? → W.cell? ⟨D, 0, none⟩ = some (.int .i64 k) ∧ W.cell? ⟨D, 1, none⟩ = some (.int .i64 f) ∧ W.cell? ⟨D, 2, none⟩ = some (.int .i64 t) ∧ W.cell? ⟨D, 3, none⟩ = some (.int .i64 d) ∧ W.cell? ⟨D, 4, none⟩ = some (.int .i64 n) ∧ W.cell? ⟨D, 5, none⟩ = some (.bool y)) := Lib.hid fun W hW => by
                   have e := hW.trans hrD
                   refine ⟨?_, ?_, ?_, ?_, ?_, ?_⟩
                   all_goals (rw [cell_of_heap e]; rfl)
                 have HKD := Lib.hid hkD; have HRD := Lib.hid hrD; have HLD : Hid (D < W6.heap.size ∧ w5.heap.size = D) := Lib.hid ⟨by omega, hhD⟩
                 clear hrD hkD hsD hhD
                 have HS6 := Lib.hid (HS5.out.keep HKD.out)
                 obtain ⟨⟨b0, b1, b2, b3, b4, b5⟩, c0, c1, c2, c3, c4, c5⟩ := HC.out W6 HS6.out.world
                 obtain ⟨g0, g1, g2, g3, g4, g5⟩ := HCD.out W6 rfl
                 clear hS
                 go_wp2_with fail
                 go_roundw
                 case rel => exact ⟨a + 1, b, tl, by omega, by omega, by go_num, rfl, by rw [← hx]; go_num, HS6.out, by rw [show i - (a + 1) = i - a - 1 by omega]; exact HP2.out⟩
                 case measure => simp [intOf]; omega
               · have HP2 := Lib.hid hp2
                 clear hp2
                 go_wp2_with fail
                 refine (HTQ.out wr tl HSk.out).mono ?_
                 rintro e w5 ⟨rfl, hS⟩
                 have HS5 := Lib.hid hS
                 obtain ⟨D, hhD⟩ : ∃ D, w5.heap.size = D := ⟨_, rfl⟩
                 go_upto_region 20 with fail
                 have hrD := heap_new w5 (.cells #[.int .i64 qk, .int .i64 qf, .int .i64 qt, .int .i64 qd, .int .i64 qn, .bool qy] 23 (0, 0))
                 have hkD := keep_alloc w5 (.cells #[.int .i64 qk, .int .i64 qf, .int .i64 qt, .int .i64 qd, .int .i64 qn, .bool qy] 23 (0, 0))
                 have hsD : (w5.alloc (.cells #[.int .i64 qk, .int .i64 qf, .int .i64 qt, .int .i64 qd, .int .i64 qn, .bool qy] 23 (0, 0))).heap.size = w5.heap.size + 1 := size_alloc _ _
                 show Code.wp _ _ _ _ (w5.alloc (.cells #[.int .i64 qk, .int .i64 qf, .int .i64 qt, .int .i64 qd, .int .i64 qn, .bool qy] 23 (0, 0)))
                 rw [hhD] at hrD hsD
                 generalize w5.alloc (.cells #[.int .i64 qk, .int .i64 qf, .int .i64 qt, .int .i64 qd, .int .i64 qn, .bool qy] 23 (0, 0)) = W6 at hrD hkD hsD ⊢
                 (try rw [hhD])
                 have HCD : Hid (∀ W : World, W.heap[D]? = W6.heap[D]? → W.cell? ⟨D, 0, none⟩ = some (.int .i64 qk) ∧ W.cell? ⟨D, 1, none⟩ = some (.int .i64 qf) ∧ W.cell? ⟨D, 2, none⟩ = some (.int .i64 qt) ∧ W.cell? ⟨D, 3, none⟩ = some (.int .i64 qd) ∧ W.cell? ⟨D, 4, none⟩ = some (.int .i64 qn) ∧ W.cell? ⟨D, 5, none⟩ = some (.bool qy)) := Lib.hid fun W hW => by
                   have e := hW.trans hrD
                   refine ⟨?_, ?_, ?_, ?_, ?_, ?_⟩
                   all_goals (rw [cell_of_heap e]; rfl)
                 have HKD := Lib.hid hkD; have HRD := Lib.hid hrD; have HLD : Hid (D < W6.heap.size ∧ w5.heap.size = D) := Lib.hid ⟨by omega, hhD⟩
                 clear hrD hkD hsD hhD
                 have HS6 := Lib.hid (HS5.out.keep HKD.out)
                 obtain ⟨⟨b0, b1, b2, b3, b4, b5⟩, c0, c1, c2, c3, c4, c5⟩ := HC.out W6 HS6.out.world
                 obtain ⟨g0, g1, g2, g3, g4, g5⟩ := HCD.out W6 rfl
                 clear hS
                 by_cases e0 : qk = k
                 · subst e0
                   by_cases e1 : qf = f
                   · subst e1
                     by_cases e2 : qt = t
                     · subst e2
                       by_cases e3 : qd = d
                       · subst e3
                         by_cases e4 : qn = n
                         · subst e4
                           by_cases e5 : qy = y
                           · subst e5
                             exact absurd (pk_inj (HPV.out.trans HQV.out.symm)) HNE.out
                           · go_wp2_with fail
                             go_roundw
                             case rel => exact ⟨a, b + 1, tl, by omega, by omega, rfl, by go_num, by rw [← hx]; go_num, HS6.out, by rw [show j - (b + 1) = j - b - 1 by omega]; exact HP2.out⟩
                             case measure => simp [intOf]; omega
                         · go_wp2_with fail
                           go_roundw
                           case rel => exact ⟨a, b + 1, tl, by omega, by omega, rfl, by go_num, by rw [← hx]; go_num, HS6.out, by rw [show j - (b + 1) = j - b - 1 by omega]; exact HP2.out⟩
                           case measure => simp [intOf]; omega
                       · go_wp2_with fail
                         go_roundw
                         case rel => exact ⟨a, b + 1, tl, by omega, by omega, rfl, by go_num, by rw [← hx]; go_num, HS6.out, by rw [show j - (b + 1) = j - b - 1 by omega]; exact HP2.out⟩
                         case measure => simp [intOf]; omega
                     · go_wp2_with fail
                       go_roundw
                       case rel => exact ⟨a, b + 1, tl, by omega, by omega, rfl, by go_num, by rw [← hx]; go_num, HS6.out, by rw [show j - (b + 1) = j - b - 1 by omega]; exact HP2.out⟩
                       case measure => simp [intOf]; omega
                   · go_wp2_with fail
                     go_roundw
                     case rel => exact ⟨a, b + 1, tl, by omega, by omega, rfl, by go_num, by rw [← hx]; go_num, HS6.out, by rw [show j - (b + 1) = j - b - 1 by omega]; exact HP2.out⟩
                     case measure => simp [intOf]; omega
                 · go_wp2_with fail
                   go_roundw
                   case rel => exact ⟨a, b + 1, tl, by omega, by omega, rfl, by go_num, by rw [← hx]; go_num, HS6.out, by rw [show j - (b + 1) = j - b - 1 by omega]; exact HP2.out⟩
                   case measure => simp [intOf]; omega
             · have hlt6 : ¬ (x : Int) < (i : Int) + j := by omega
               obtain rfl : a = i := by omega
               obtain rfl : b = j := by omega
               have hnil : ps3 = [] := by
                 have := HPM3.out.length_eq
                 simp at this
                 exact this
               subst hnil
               have HTN : Hid (∀ W, NS W0 W nb [] → Calls Tryz.prog 25 #[.pointer (some ⟨nb, 0, none⟩), .int .i64 0] W fun e w' => e = .returned (.tuple #[.agg #[.int .i64 0, .int .i64 0, .int .i64 0, .int .i64 0, .int .i64 0, .bool false], .bool false]) ∧ NS W0 w' nb []) := Lib.hid fun W hW => ns_take W0 W nb [] 0 hW (by decide)
               go_wp2_with fail
               refine (HTN.out wr HSk.out).mono ?_
               rintro e w5 ⟨rfl, hS⟩
               have HS5 := Lib.hid hS
               clear hS
               go_wp2_with fail
               refine (ns_len W0 _ nb [] (HS5.out.keep (keep_alloc _ _))).mono ?_
               rintro e w' ⟨rfl, rfl⟩
               go_wp2_with fail
               go_ret
               exact ⟨rfl, K0.out.trans' (HS5.out.world.alloc _)⟩

set_option linter.unusedVariables false
set_option maxRecDepth 100000 in
theorem lifted (os : Os) (started : os.Started) (H : Type) (enc : TypeId × Value → H) :
    ReturnsInHanded {} Tryz.checked os 10 .any (Rows.netTwiceSpec.pre6 enc Tryz.prog Tryz.f10 Rows.netTwiceRow.domain false) (Rows.netTwiceSpec.post enc Tryz.prog Tryz.f10 false true false false) := by
  refine returnsInHanded_of_change (C := Tryz.checked) own started (by kernel_rfl) Tryz.func10
    (ChangeSpec.witness6 (enc := enc) (C := Tryz.checked) false ⟨#[], #[.agg #[.int .i64 0, .int .i64 0, .int .i64 0, .int .i64 0, .int .i64 0, .bool false], .agg #[.int .i64 0, .int .i64 0, .int .i64 0, .int .i64 0, .int .i64 0, .bool false], .int .i64 0, .int .i64 0], []⟩ 8 (by kernel_rfl) (by kernel_rfl) (by kernel_rfl) (by kernel_rfl)) ?_
  intro W base args ds gs before hval0 hW hcnd _
  have hval : ∀ (j : Nat) t v, Tryz.f10.params[j]? = some t → args[j]? = some v → Value.okWide Tryz.prog W .any base t v := hval0
  have hW' := hW
  obtain ⟨p, q, hA0, hV, rfl, hfz, hnd⟩ := hW
  have hA : DataW.TrodAll enc Tryz.prog W 0 (fun _ => true) true Tryz.f10.params.toList args.toList ds p := hA0
  rw [Tryz.params10] at hA hval
  obtain ⟨v0, vs0, d0, ds0, p0, q0, hargs, rfl, rfl, h0, r0⟩ := trodAll_cons hA
  obtain ⟨v1, vs1, d1, ds1, p1, q1, rfl, rfl, rfl, h1, r1⟩ := trodAll_cons r0
  obtain ⟨v2, vs2, d2, ds2, p2, q2, rfl, rfl, rfl, h2, r2⟩ := trodAll_cons r1
  obtain ⟨v3, vs3, d3, ds3, p3, q3, rfl, rfl, rfl, h3, r3⟩ := trodAll_cons r2
  obtain ⟨rfl, rfl, rfl⟩ := trodAll_nil r3
  obtain rfl : args = #[v0, v1, v2, v3] := by cases args; simp_all
  obtain ⟨rfl, rfl⟩ := trodVars_none hV
  have k0 := h0
  have lt0 : ∀ x ∈ p0, x.block < W.heap.size := by obtain ⟨m, hm⟩ := k0; exact DataW.trod_lt m _ _ _ hm
  obtain ⟨z0, rfl, w0⟩ := open_arg0 W base (hval 0 23 v0 rfl rfl) h0
  have k1 := h1
  have lt1 : ∀ x ∈ p1, x.block < W.heap.size := by obtain ⟨m, hm⟩ := k1; exact DataW.trod_lt m _ _ _ hm
  obtain ⟨z1, rfl, w1⟩ := open_arg1 W base (hval 1 23 v1 rfl rfl) h1
  obtain ⟨a2, rfl, rfl, rfl, w2⟩ := open_int Tryz.underlying3 (hval 2 3 v2 rfl rfl) h2
  obtain ⟨a3, rfl, rfl, rfl, w3⟩ := open_int Tryz.underlying3 (hval 3 3 v3 rfl rfl) h3
  clear hA0 hval0
  refine (walk W z0 w0 z1 w1 a2 w2 a3 w3).mono fun e W' ⟨he, hk⟩ => ?_
  subst he
  have bel := Keep.below hk
  exact ⟨_, rfl, _, _, _, [], _, [], hW', trodAll_mk1 (shut_bool Tryz.underlying4 _), (trodAll_cons_mk (Below.trod laidOut (by kernel_rfl) (of_decide_eq_true (by kernel_rfl)) k0 bel lt0) (trodAll_cons_mk (Below.trod laidOut (by kernel_rfl) (of_decide_eq_true (by kernel_rfl)) k1 bel lt1) (trodAll_cons_mk (shut_int Tryz.underlying3 w2) (trodAll_cons_mk (shut_int Tryz.underlying3 w3) trodAll_mk0)))), rfl, bel.frame _, fun h => by cases h⟩

theorem over : Rows.netTwiceRow.holds Tryz.pinned (OpenSpec.ofChange Rows.netTwiceSpec) :=
  OpenClaim.holds_of_wide 10 Tryz.f10 rfl rfl rfl rfl rfl rfl rfl ⟨rfl, rfl, rfl, rfl, rfl⟩ rfl rfl rfl rfl rfl (by kernel_rfl) Tryz.func10 (by kernel_rfl)
    (of_decide_eq_true (by kernel_rfl)) (by unfold Func.isWrapper; rw [if_neg (of_decide_eq_false (by kernel_rfl))]; exact ⟨rfl, rfl⟩)
    (fun os started H enc _ => lifted os started H enc)

/-- The statement. -/
theorem proved : Rows.NetTwiceSaid := over
#print axioms proved
end Go.Proofs.YtlabhbjampkhpaaGreat.netTwice
