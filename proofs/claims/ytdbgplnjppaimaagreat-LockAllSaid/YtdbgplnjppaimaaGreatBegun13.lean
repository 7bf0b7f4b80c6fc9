/- Law13's own opening check returns true. -/
import Derived.Test.YtdbgplnjppaimaaGreatSess13
import Derived.Test.YtdbgplnjppaimaaGreatBegun6
import Derived.Test.YtdbgplnjppaimaaGreatBegun8
open Go Go.Proofs Go.RowKit Go.Maps Go.Sort Go.Shelf
namespace Go.Proofs.YtdbgplnjppaimaaGreat
def Off4 (F : Nat → Prop) (p mb tp tm : Nat) : Prop := ¬ F p ∧ ¬ F mb ∧ ¬ F tp ∧ ¬ F tm
theorem Off4.step {F F' : Nat → Prop} {p mb tp tm n : Nat} (h : Off4 F p mb tp tm) (hf : ∀ k, F' k → F k ∨ n ≤ k) (h1 : p < n ∧ mb < n ∧ tp < n ∧ tm < n) : Off4 F' p mb tp tm :=
  ⟨fun e => (hf _ e).elim h.1 (fun e => by omega), fun e => (hf _ e).elim h.2.1 (fun e => by omega), fun e => (hf _ e).elim h.2.2.1 (fun e => by omega), fun e => (hf _ e).elim h.2.2.2 (fun e => by omega)⟩
theorem Off4.sf {F : Nat → Prop} {p mb tp tm : Nat} (h : Off4 F p mb tp tm) : ∀ k, F k → ¬ SF p mb tm k := by
  rintro k hk (rfl | rfl | rfl)
  · exact h.1 hk
  · exact h.2.1 hk
  · exact h.2.2.2 hk
theorem ki_small {x : Int} (h : -1000000000000 ≤ x ∧ x ≤ 1000000000000) : KI x := ki_of (by omega)
theorem lbegun6_any (w : World) : Calls Tryz.prog 36 #[] w fun e w' => e = .returned (.bool true) ∧ Keep NoF w w' := by
  go_enter Tryz.func36, Tryz.ntmps36
  go_wp2_with fail
  refine (begun6_any w).mono ?_
  rintro e w1 ⟨rfl, hk⟩
  have HK := Lib.hid hk; clear hk
  go_wp2_with fail
  go_ret
  exact ⟨rfl, HK.out⟩
theorem lbegun8_any (w : World) : Calls Tryz.prog 37 #[] w fun e w' => e = .returned (.bool true) ∧ Keep NoF w w' := by
  go_enter Tryz.func37, Tryz.ntmps37
  go_wp2_with fail
  refine (begun8_any w).mono ?_
  rintro e w1 ⟨rfl, hk⟩
  have HK := Lib.hid hk; clear hk
  go_wp2_with fail
  go_ret
  exact ⟨rfl, HK.out⟩
set_option maxHeartbeats 4000000 in
set_option maxRecDepth 8000 in
theorem begun13_any (w : World) : Calls Tryz.prog 12 #[] w fun e w' => e = .returned (.bool true) ∧ Keep NoF w w' := by
  go_enter Tryz.func12, Tryz.ntmps12
  go_wp2_with fail
  refine (newLock_any w).mono ?_
  rintro e w1 ⟨p, F, rfl, hL, hk1, hF1⟩
  have K1 := Lib.hid hk1; have L1 := Lib.hid hL
  have HF1 := Lib.hid hF1
  clear hL hk1 hF1
  go_wp2_with fail
  refine (newSes_any 3 (by omega) w1).mono ?_
  rintro e w2 ⟨q, mb, tp, tm, rfl, hS, hk2, g1, g2, g3, g4⟩
  have HOFF : Hid (Off4 F q mb tp tm) := Lib.hid ⟨fun f => by have := L1.out.lt _ f; omega, fun f => by have := L1.out.lt _ f; omega, fun f => by have := L1.out.lt _ f; omega, fun f => by have := L1.out.lt _ f; omega⟩
  have HG : Hid (w.heap.size ≤ q ∧ w.heap.size ≤ mb ∧ w.heap.size ≤ tp ∧ w.heap.size ≤ tm) := Lib.hid (by have := K1.out.size; omega)
  have L2 := Lib.hid (L1.out.keep hk2 (fun _ _ f => f)); have S2 := Lib.hid hS
  have K2 := Lib.hid (K1.out.trans' hk2)
  clear hS hk2 g1 g2 g3 g4
  go_wp2_with fail
  refine (put_ok L2.out 7 (ki_small (by omega)) (by omega) (by omega) ⟨⟨#[113]⟩, ⟨#[120]⟩⟩).mono ?_
  rintro e w3 ⟨F3, rfl, h3, k3, f3⟩
  have L3 := Lib.hid h3
  have O3 := Lib.hid (HOFF.out.step f3 S2.out.lt)
  have S3 := Lib.hid (S2.out.keep k3 HOFF.out)
  have K3 : Hid (Keep NoF w w3) := Lib.hid (K2.out.trans k3 (fun _ _ f => f) (fun k hk f => by have := HF1.out k f; omega))
  have F3 : Hid (∀ k, F3 k → w.heap.size ≤ k) := Lib.hid fun k f => by rcases f3 k f with f | f; exact HF1.out k f; have := K2.out.size; omega
  clear h3 k3 f3 L2 S2 K2 HOFF L1 HF1
  go_wp2_with fail
  refine (took_ok L3.out 5 (ki_small (by omega)) (by simp [cnUp]) (by omega)).mono ?_
  rintro e w4 ⟨F4, rfl, h4, k4, f4⟩
  have L4 := Lib.hid h4
  have O4 := Lib.hid (O3.out.step f4 S3.out.lt)
  have S4 := Lib.hid (S3.out.keep k4 O3.out)
  have K4 : Hid (Keep NoF w w4) := Lib.hid (K3.out.trans k4 (fun _ _ f => f) (fun k hk f => by have := F3.out k f; omega))
  have G4 : Hid (∀ k, F4 k → w.heap.size ≤ k) := Lib.hid fun k f => by rcases f4 k f with f | f; exact F3.out k f; have := K3.out.size; omega
  clear h4 k4 f4 L3 S3 K3 O3 F3
  go_wp2_with fail
  refine (sopen_ok S4.out (by simp) (by omega) (by omega)).mono ?_
  rintro e w5 ⟨rfl, h5, k5⟩
  have e5 : (3 : Int) * 4294967296 + (0 + 1) = 12884901889 := rfl
  simp only [e5, List.nil_append] at h5 ⊢
  have L5 := Lib.hid (L4.out.keep k5 O4.out.sf); have S5 := Lib.hid h5
  have hsf : ∀ k, SF q mb tm k → w.heap.size ≤ k := by rintro k (e | e | e) <;> rw [e]; exact HG.out.1; exact HG.out.2.1; exact HG.out.2.2.2
  have HSF := Lib.hid hsf
  have K5 : Hid (Keep NoF w w5) := Lib.hid (K4.out.trans k5 (fun _ _ f => f) (fun k hk f => by have := hsf k f; omega))
  clear h5 k5 L4 S4 K4 hsf e5
  go_wp2_with fail
  refine (sbind_ok S5.out 12884901889 9 (ki_small (by omega)) (ki_small (by omega)) (by rintro ⟨_, y, hy, hyx, _⟩; exact hyx (List.mem_singleton.1 hy)) (List.mem_singleton.2 rfl) (by omega)).mono ?_
  rintro e w6 ⟨rfl, h6, k6⟩
  have L6 := Lib.hid (L5.out.keep k6 O4.out.sf); have S6 := Lib.hid h6
  have K6 : Hid (Keep NoF w w6) := Lib.hid (K5.out.trans k6 (fun _ _ f => f) (fun k hk f => by have := HSF.out k f; omega))
  clear h6 k6 L5 S5 K5
  go_wp2_with fail
  refine (sclose_ok S6.out 12884901889 (ki_small (by omega)) (List.mem_singleton.2 rfl)).mono ?_
  rintro e w7 ⟨rfl, h7, k7⟩
  have e7 : [(12884901889 : Int)].filter (fun z => decide (z ≠ 12884901889)) = [] := by simp
  have e8 : tdUp (tdUp (fun _ => 0) 12884901889 0) 12884901889 9 12884901889 = 9 := if_pos rfl
  rw [e7] at h7
  rw [e8]
  have L7 := Lib.hid (L6.out.keep k7 O4.out.sf); have S7 := Lib.hid h7
  have K7 : Hid (Keep NoF w w7) := Lib.hid (K6.out.trans k7 (fun _ _ f => f) (fun k hk f => by have := HSF.out k f; omega))
  clear h7 k7 L6 S6 K6 e7 e8
  go_wp2_with fail
  refine (lbegun6_any w7).mono ?_
  rintro e w8 ⟨rfl, k8⟩
  have L8 := Lib.hid (L7.out.keep k8 (fun _ _ f => f)); have S8 := Lib.hid (S7.out.keepN k8); have K8 := Lib.hid (K7.out.trans' k8)
  clear k8 L7 S7 K7
  go_wp2_with fail
  refine (lbegun8_any w8).mono ?_
  rintro e w9 ⟨rfl, k9⟩
  obtain ⟨cn, hcn⟩ : ∃ cn, cnUp (cnUp (fun _ => 0) 7) 5 = cn := ⟨_, rfl⟩
  obtain ⟨ps, hps⟩ : ∃ ps, psUp (fun _ => []) 7 (⟨⟨#[113]⟩, ⟨#[120]⟩⟩ : PutV) = ps := ⟨_, rfl⟩
  have h9 := L8.out.keep k9 (fun _ _ f => f)
  rw [hcn, hps] at h9
  have L9 := Lib.hid h9; have S9 := Lib.hid (S8.out.keepN k9); have K9 := Lib.hid (K8.out.trans' k9)
  have h57 : cn 5 = 1 ∧ cn 7 = 1 ∧ ps 5 = [] ∧ (ps 7).length = 1 := by subst hcn hps; exact ⟨rfl, rfl, rfl, rfl⟩
  have hmem : ∀ y, y ∈ [(5 : Int), 7] ↔ 1 ≤ cn y := fun y => by
    subst hcn
    simp only [cnUp, List.mem_cons, List.not_mem_nil, or_false]
    by_cases e : y = 5
    · simp [e]
    · by_cases e2 : y = 7
      · simp [e2]
      · simp [e, e2]
  have HC := Lib.hid h57; have HM := Lib.hid hmem
  clear k9 L8 S8 K8 h9 h57 hmem hcn hps
  have hst : List.Pairwise (· < ·) [(5 : Int), 7] := by decide
  go_wp2_with fail
  refine (lockN L9.out 7 (ki_small (by omega))).mono ?_
  rintro e w' ⟨rfl, hw⟩
  obtain rfl : w9 = w' := hw.symm
  rw [HC.out.2.1]
  go_wp2_with fail
  refine (puts_any L9.out 7 (ki_small (by omega))).mono ?_
  rintro e wa ⟨v, rfl, ⟨ao, cp, rfl, _, _⟩, ka⟩
  rw [HC.out.2.2.2]
  have La := Lib.hid (L9.out.keep ka (fun _ _ f => f)); have Sa := Lib.hid (S9.out.keepN ka); have Ka := Lib.hid (K9.out.trans' ka)
  clear ka L9 S9 K9
  go_wp2_with fail
  refine (puts_any La.out 5 (ki_small (by omega))).mono ?_
  rintro e wb ⟨v, rfl, ⟨ao2, cp2, rfl, _, _⟩, kb⟩
  rw [HC.out.2.2.1]
  have Lb := Lib.hid (La.out.keep kb (fun _ _ f => f)); have Sb := Lib.hid (Sa.out.keepN kb); have Kb := Lib.hid (Ka.out.trans' kb)
  clear kb La Sa Ka
  go_wp2_with fail
  refine (tids_any Lb.out hst HM.out (by omega)).mono ?_
  rintro e wc ⟨v, rfl, ⟨ao3, cp3, rfl, _, _⟩, kc⟩
  have Lc := Lib.hid (Lb.out.keep kc (fun _ _ f => f)); have Sc := Lib.hid (Sb.out.keepN kc); have Kc := Lib.hid (Kb.out.trans' kc)
  clear kc Lb Sb Kb
  have e2 : ((([(5 : Int), 7].length : Nat) : Int) == 2) = true := rfl
  go_wp2_with fail
  refine (tids_any Lc.out hst HM.out (by omega)).mono ?_
  rintro e wd ⟨v, rfl, ⟨ao4, cp4, rfl, hr4, _⟩, kd⟩
  have Ld := Lib.hid (Lc.out.keep kd (fun _ _ f => f)); have Sd := Lib.hid (Sc.out.keepN kd); have Kd := Lib.hid (Kc.out.trans' kd)
  obtain ⟨g4, rfl, c4⟩ := row_at hr4 rfl 0 (by decide)
  simp at c4
  clear kd Lc Sc Kc hr4
  go_wp2_with fail
  refine (lall_any Ld.out hst HM.out (by omega) (by intro y hy; simp at hy; rcases hy with rfl | rfl <;> exact ki_small (by omega)) (by decide)).mono ?_
  rintro e we ⟨v, rfl, ⟨ao5, cp5, rfl, _, _⟩, ke⟩
  have hl5 : ([(5 : Int), 7].flatMap ps).length = 1 := by simp [HC.out.2.2.1, HC.out.2.2.2]
  rw [hl5]
  have Le := Lib.hid (Ld.out.keep ke (fun _ _ f => f)); have Se := Lib.hid (Sd.out.keepN ke); have Ke := Lib.hid (Kd.out.trans' ke)
  clear ke Ld Sd Kd c4 hl5 hst
  go_wp2_with fail
  refine (drop_ok Le.out 5 (ki_small (by omega)) (by rw [HC.out.1]; decide)).mono ?_
  rintro e wf ⟨F5, rfl, hf, kf, ff⟩
  have Lf := Lib.hid hf; have Of := Lib.hid (O4.out.step ff Se.out.lt); have Sf := Lib.hid (Se.out.keep kf O4.out)
  have Kf : Hid (Keep NoF w wf) := Lib.hid (Ke.out.trans kf (fun _ _ f => f) (fun k hk f => by have := G4.out k f; omega))
  have G5 : Hid (∀ k, F5 k → w.heap.size ≤ k) := Lib.hid fun k f => by rcases ff k f with f | f; exact G4.out k f; have := Ke.out.size; omega
  have hz : cnOff cn 5 5 = 0 := rfl
  have h7 : cnOff cn 5 7 = 1 := HC.out.2.1
  clear hf kf ff Le Se Ke
  go_wp2_with fail
  refine (drop_no Lf.out 5 (ki_small (by omega)) hz).mono ?_
  rintro e w' ⟨rfl, hw⟩
  obtain rfl : wf = w' := hw.symm
  go_wp2_with fail
  refine (touch_no Lf.out 5 (ki_small (by omega)) hz).mono ?_
  rintro e w' ⟨rfl, hw⟩
  obtain rfl : wf = w' := hw.symm
  go_wp2_with fail
  refine (touch_ok Lf.out 7 (ki_small (by omega)) (by rw [h7]; decide) (by omega)).mono ?_
  rintro e wg ⟨F6, rfl, _, kg, _⟩
  have Sg := Lib.hid (Sf.out.keep kg Of.out)
  have Kg : Hid (Keep NoF w wg) := Lib.hid (Kf.out.trans kg (fun _ _ f => f) (fun k hk f => by have := G5.out k f; omega))
  clear kg Lf Sf Kf
  go_wp2_with fail
  refine (sof_any Sg.out 9 (by omega)).mono ?_
  rintro e wh ⟨r, rfl, hr, kh⟩
  obtain rfl : r = 0 := by
    rcases hr with ⟨_, h, _⟩ | ⟨h, _⟩
    · exact absurd h (List.not_mem_nil)
    · exact h
  have Kh := Lib.hid (Kg.out.trans' kh)
  clear kh hr
  go_wp2_with fail
  go_ret
  exact ⟨rfl, Kh.out⟩
end Go.Proofs.YtdbgplnjppaimaaGreat
