/- VoteStrangers: the law returns true and changes nothing that was there. No conditions. -/
import Derived.Test.YtlbpmhpcoihlnaaArgs18
import Derived.Deep.CutRange
import Derived.Test.YtlbpmhpcoihlnaaRows
import Derived.WalkKit
import Derived.ProofKit
import Derived.OpenShut
import Derived.ShutString
import Derived.ChangeOld
import Derived.Below
namespace Go.Proofs.Ytlbpmhpcoihlnaa.voteStrangers
open Go Go.ChangeShapes Go.WideShapes Go.ChangeAt Go.RowKit
open Go.ChangeMaps (open_string shut_string)

theorem own : ownKnob Try.prog.godebug = none := by kernel_rfl
theorem laidOut : laidOutB Try.prog = true := by kernel_rfl

theorem open_arg2 {H : Type} {enc : TypeId × Value → H} {a : Option Addr} {len cap : Nat} {d : DataW H} {p : List MemPlace} (W : World) (_base : Nat)
    (h : DataW.Trod enc Try.prog W 0 (fun _ => true) true 34 (.slice a len cap) d p) : ∃ l : List Bool, l.length = len ∧ SlBo W a cap l := open_bools h

theorem row_slice {w : World} {b s n : Nat} {e : TypeId} {v : Value} {xs : List Value} (h : w.ownsRow b e s v n xs) : ∃ ao cp, v = .slice ao n cp := by
  rcases h.2 with ⟨rfl, he⟩ | ⟨g, cap, cur, rfl, _⟩
  · exact ⟨none, 0, by rw [he]⟩
  · exact ⟨_, _, rfl⟩
theorem miss_all (ks : List Int) : missD ks (fun _ => false) [] = sortD ks := by
  unfold missD
  rw [List.filter_eq_self]
  intro x _
  simp [votedB, memB]
theorem memB_snoc (l : List Int) (k : Nat) (hk : k < l.length) (x : Int) : memB x (l.take (k + 1)) = (memB x (l.take k) || (l[k] == x)) := by
  rw [List.take_succ_eq_append_getElem hk, Bool.eq_iff_iff, Bool.or_eq_true, memB_iff, memB_iff, List.mem_append, List.mem_singleton, beq_iff_eq, eq_comm (a := x)]
set_option maxHeartbeats 4000000 in
theorem walk (w : World) (a0 : Option Addr) (len0 cap0 : Nat) (z0 : List Int) (h0 : IsRow .i64 w a0 len0 cap0 z0) (a1 : Option Addr) (len1 cap1 : Nat) (z1 : List Int) (h1 : IsRow .i64 w a1 len1 cap1 z1)
    (a2 : Option Addr) (len2 cap2 : Nat) (z2 : List Bool) (h2 : z2.length = len2 ∧ SlBo w a2 cap2 z2) :
    Calls Try.prog 7 #[.slice a0 len0 cap0, .slice a1 len1 cap1, .slice a2 len2 cap2] w fun e w' => e = .returned (.bool true) ∧ Keep NoF w w' := by
  obtain ⟨l0, hl0, s0⟩ := h0.sli
  obtain ⟨l1, hl1, s1⟩ := h1.sli
  obtain ⟨hl2, s2⟩ := h2
  subst hl0 hl1 hl2
  have c0 := s0.1; have c0m := s0.2.1; have c1 := s1.1; have c1m := s1.2.1; have c2 := s2.1; have c2m := s2.2.1
  unfold maxLen at c0m c1m c2m
  obtain ⟨V, hV⟩ : ∃ V, l0.take 8 = V := ⟨_, rfl⟩
  have sV := s0.take 8
  rw [hV] at sV
  obtain ⟨n, hn⟩ : ∃ n, V.length = n := ⟨_, rfl⟩
  have hnn : (8 < l0.length ∧ n = 8) ∨ (l0.length ≤ 8 ∧ n = l0.length) := by rw [← hn, ← hV, List.length_take]; omega
  have hn8 : n ≤ 8 := by omega
  have S1 := Lib.hid s1; have S2 := Lib.hid s2; have SV := Lib.hid sV; have HN := Lib.hid hn
  clear h0 h1 s0 s1 s2 sV hV hn
  go_enter Try.func7, Try.ntmps7
  go_wp2_with fail
  refine (begun18_any w).mono ?_
  rintro e w1 ⟨rfl, hk⟩
  have K1 := Lib.hid hk
  clear hk
  go_upto_region 4 with fail
  go_cut [0] from 16 to 21 (fun v wx => v = .slice a0 n cap0 ∧ wx = w1)
  case first =>
    have hm2 : (min (l0.length : Int) 8) ≤ cap0 := by omega
    have hmin : (min (l0.length : Int) 8).toNat = n := by omega
    have HMIN := Lib.hid hmin
    clear hmin
    go_wp2_with fail
    go_meet
    exact ⟨by rw [HMIN.out], rfl⟩
  case rest =>
    obtain ⟨rfl, hw⟩ := hcut
    have hw2 := hw.symm
    clear hw
    subst hw2
    clear hnn
    go_wp2_with fail
    refine (new_any a0 cap0 V n HN.out w1 (SV.out.keep K1.out (fun _ _ f => f)) (by omega)).mono ?_
    rintro e w2 ⟨p, by_, bn, ks, rfl, hB, hmem, hk, hp, hb, hbn⟩
    have hsz := K1.out.size
    have HB := Lib.hid hB; have HME := Lib.hid hmem; have K2 := Lib.hid (K1.out.trans' hk)
    have HF : Hid (w.heap.size ≤ by_ ∧ w.heap.size ≤ bn) := Lib.hid ⟨by omega, by omega⟩
    obtain ⟨h, hh⟩ : ∃ h, howD ks (fun _ => false) [] = h := ⟨_, rfl⟩
    have HH := Lib.hid hh
    clear hB hmem hk hp hb hbn hsz hh
    have hhow := how_any p by_ bn 1000 ks (fun _ => false) [] w2 HB.out (by decide)
    rw [HH.out] at hhow
    go_wp2_with fail
    refine hhow.mono ?_
    rintro e w3 ⟨rfl, hk3⟩
    have HB3 := Lib.hid (HB.out.keep hk3); have K3 := Lib.hid (K2.out.trans' hk3)
    clear hhow hk3
    go_wp2_with fail
    go_loopw [10] (fun iv wr => ∃ i : Nat, i ≤ 15 ∧ i ≤ l1.length ∧ iv = .int .i64 i ∧ BalI wr p by_ bn (1000 + i) ks (fun _ => false) [] ∧ Keep NoF w wr) (fun iv _ => l1.length - (intOf iv).toNat)
    case atStart => exact ⟨0, by omega, Nat.zero_le _, rfl, HB3.out, K3.out⟩
    case round =>
      obtain ⟨i, hi15, hi, rfl, hBr, hKr⟩ := hrel
      clear HB HB3 K3 K2
      have HBR := Lib.hid hBr; have KR := Lib.hid hKr
      clear hBr hKr
      by_cases hgo : i < l1.length ∧ i < 15
      · obtain ⟨hlt, hl15⟩ := hgo
        have hi1 : (i : Int) < l1.length := by omega
        have hi2 : (i : Int) < 15 := by omega
        obtain ⟨g1, o1, rfl, D1⟩ := S1.out.2.2.2 i hlt
        have d1 := KR.out.cell' D1 (fun f => f)
        obtain ⟨x, hx⟩ : ∃ x, l1[i] = x := ⟨_, rfl⟩
        have hwf : (Lit.int .i64 x).wf = true := by rw [← hx]; exact S1.out.2.2.1 _ (List.getElem_mem hlt)
        rw [hx] at d1 D1
        have HWF := Lib.hid hwf
        have HD1 : Hid (∀ W, Keep NoF w W → W.cell? ⟨g1, o1 + i, none⟩ = some (.int .i64 x)) := fun W hW => hW.cell' D1 (fun f => f)
        clear D1
        clear hx hwf
        go_wp2_with fail
        go_loopw [11, 12] (fun bv kv wq => ∃ k : Nat, k ≤ n ∧ bv = .bool (memB x (V.take k)) ∧ kv = .int .i64 k ∧ Keep NoF wr wq) (fun _ kv _ => n - (intOf kv).toNat)
        case atStart => exact ⟨0, Nat.zero_le _, by simp [memB], rfl, Keep.refl _ _⟩
        case round =>
          obtain ⟨k, hk, rfl, rfl, hkq⟩ := hrel
          have KQ := Lib.hid (KR.out.trans' hkq); have KI := Lib.hid hkq
          have hd1 := hkq.cell' d1 (fun f => f)
          clear d1
          by_cases hkn : k < n
          · have hkn2 : (k : Int) < n := by omega
            have hkV : k < V.length := by rw [HN.out]; exact hkn
            obtain ⟨g0, o0, rfl, d0⟩ := (SV.out.keep KQ.out (fun _ _ f => f)).2.2.2 k hkV
            have hms := memB_snoc V k hkV x
            obtain ⟨vk, hvk⟩ : ∃ v, V[k] = v := ⟨_, rfl⟩
            rw [hvk] at d0 hms
            have HMS := Lib.hid hms
            clear hvk hms hkq
            generalize memB x (V.take k) = b at HMS ⊢
            cases b
            all_goals
              go_wp2_with fail
              go_quiet (fail)
              go_wp2_with fail
              go_roundw
              case rel => exact ⟨k + 1, by omega, by rw [HMS.out]; simp, by go_num, KI.out.drewN _⟩
              case measure => simp [intOf]; omega
          · have hkn2 : ¬ (k : Int) < n := by omega
            have hkl : V.take k = V := List.take_of_length_le (by rw [HN.out]; omega)
            rw [hkl]
            have HBQ := Lib.hid (HBR.out.keep KI.out)
            clear hkq hkl
            rcases hmb : memB x V with _ | _
            · have hnk : x ∉ ks := fun e => by
                have h3 := memB_yes ((HME.out x).1 e)
                rw [hmb] at h3; cases h3
              have hv := fun y W hW => vote_any p by_ bn (1000 + i) ks (fun _ => false) [] x HWF.out y W hW (by omega)
              have e1 : ∀ y, yesV ks (fun _ => false) [] x y = fun _ => false := fun y => yesV_no (by simp [hnk])
              have e2 : ∀ y, noV ks [] x y = [] := fun y => noV_no (by simp [hnk])
              simp only [e1, e2, HH.out] at hv
              have HV := Lib.hid hv
              have hne : (h != h) = false := by simp
              clear hmb hnk hv e1 e2
              by_cases hy : i < z2.length
              · have hy1 : (i : Int) < z2.length := by omega
                obtain ⟨g2, o2, rfl, D2⟩ := S2.out.2.2 i hy
                have d2 := KQ.out.cell' D2 (fun f => f)
                generalize z2[i] = y at d2 D2
                have hcc : ∀ W, Keep NoF w W → W.cell? ⟨g1, o1 + i, none⟩ = some (.int .i64 x) ∧ W.cell? ⟨g2, o2 + i, none⟩ = some (.bool y) := fun W hW => ⟨HD1.out W hW, hW.cell' D2 (fun f => f)⟩
                have HCC := Lib.hid hcc
                clear hcc
                go_wp2_with fail
                go_region_held3 (fun W' : World => W'.cell? ⟨g1, o1 + i, none⟩ = some (.int .i64 x) ∧ W'.cell? ⟨g2, o2 + i, none⟩ = some (.bool y))
                  (first | assumption | exact HCC.out _ K8.out | go_keep)
                  (first | (go_at_call 14; refine (HV.out y _ (HBQ.out.keep (Keep.refl NoF wr).drew)).mono ?_; rintro e w8 ⟨rfl, hB8, hk8⟩; have HB8 := Lib.hid hB8; have K8 := Lib.hid (KQ.out.trans (hk8.of_drew : Keep (VF by_ bn) wr w8) (fun _ _ f => f) (fun j hj f => by have := HF.out; rcases f with f | f <;> omega)); clear hB8 hk8))
                all_goals
                  go_wp2_with fail
                  go_roundw
                  case rel => exact ⟨i + 1, by omega, by omega, by go_num, HB8.out, K8.out⟩
                  case measure => simp [intOf]; omega
              · have hy1 : ¬ (i : Int) < z2.length := by omega
                go_wp2_with fail
                refine wp_region_noPanic ?_
                refine wp_region_held_drew (S := fun W' : World => W'.cell? ⟨g1, o1 + i, none⟩ = some (.int .i64 x)) (by kernel_rfl) (HD1.out _ KQ.out.drew) (fun hHeld => ?_)
                refine wpAnyH_take (i := 0) (oi := ?o0) (v := ?v0) ?hi0 (by kernel_rfl) (by kernel_rfl) (by kernel_rfl) (fun _ _ _ h => h) (Or.inl ⟨?w0, ?y0⟩) (by assumption) ?r0
                case hi0 => (simp only [List.getElem?_toArray, List.getElem?_cons_zero]; try rfl)
                case w0 => rfl
                case y0 => (intro w hSw; (try dsimp only at hSw); go_simp; (try with_reducible rfl))
                (try simp only [Act.put, List.setIfInBounds_toArray, List.set_cons_zero, List.set_cons_succ])
                refine wpAnyH_take (i := 1) (oi := ?o1) (v := ?v1) ?hi1 (by kernel_rfl) (by kernel_rfl) (by kernel_rfl) (fun _ _ _ h => h) (Or.inl ⟨?w1, ?y1⟩) (by assumption) ?r1
                case hi1 => (simp only [List.getElem?_toArray, List.getElem?_cons_succ, List.getElem?_cons_zero]; try rfl)
                case w1 => rfl
                case y1 => (intro w hSw; (try dsimp only at hSw); go_simp; (try with_reducible rfl))
                (try simp only [Act.put, List.setIfInBounds_toArray, List.set_cons_zero, List.set_cons_succ])
                refine wpAnyH_take (i := 2) (oi := ?o2) (v := ?v2) ?hi2 (by kernel_rfl) (by kernel_rfl) (by kernel_rfl) (fun _ _ _ h => h) (Or.inl ⟨?w2, ?y2⟩) (by assumption) ?r2
                case hi2 => (simp only [List.getElem?_toArray, List.getElem?_cons_succ, List.getElem?_cons_zero]; try rfl)
                case w2 => rfl
                case y2 => (intro w hSw; (try dsimp only at hSw); go_simp; (try with_reducible rfl))
                (try simp only [Act.put, List.setIfInBounds_toArray, List.set_cons_zero, List.set_cons_succ])
                refine wpAnyH_take (i := 3) (oi := ?o3) (v := ?v3) ?hi3 (by kernel_rfl) (by kernel_rfl) (by kernel_rfl) (fun _ _ _ h => h) (Or.inl ⟨?w3, ?y3⟩) (by assumption) ?r3
                case hi3 => (simp only [List.getElem?_toArray, List.getElem?_cons_succ, List.getElem?_cons_zero]; try rfl)
                case w3 => rfl
                case y3 => (intro w hSw; (try dsimp only at hSw); go_simp; (try with_reducible rfl))
                (try simp only [Act.put, List.setIfInBounds_toArray, List.set_cons_zero, List.set_cons_succ])
                refine wpAnyH_take (i := 4) (oi := ?o4) (v := ?v4) ?hi4 (by kernel_rfl) (by kernel_rfl) (by kernel_rfl) (fun _ _ _ h => h) (Or.inl ⟨?w4, ?y4⟩) (by assumption) ?r4
                case hi4 => (simp only [List.getElem?_toArray, List.getElem?_cons_succ, List.getElem?_cons_zero]; try rfl)
                case w4 => rfl
                case y4 => (intro w hSw; (try dsimp only at hSw); go_simp; (try with_reducible rfl))
                (try simp only [Act.put, List.setIfInBounds_toArray, List.set_cons_zero, List.set_cons_succ])
                refine wpAnyH_take (i := 5) (oi := ?o5) (v := ?v5) ?hi5 (by kernel_rfl) (by kernel_rfl) (by kernel_rfl) (fun _ _ _ h => h) (Or.inl ⟨?w5, ?y5⟩) (by assumption) ?r5
                case hi5 => (simp only [List.getElem?_toArray, List.getElem?_cons_succ, List.getElem?_cons_zero]; try rfl)
                case w5 => rfl
                case y5 => (intro w hSw; (try dsimp only at hSw); go_simp; (try with_reducible rfl))
                (try simp only [Act.put, List.setIfInBounds_toArray, List.set_cons_zero, List.set_cons_succ])
                refine wpAnyH_take (i := 6) (oi := ?o6) (v := ?v6) ?hi6 (by kernel_rfl) (by kernel_rfl) (by kernel_rfl) (fun _ _ _ h => h) (Or.inl ⟨?w6, ?y6⟩) (by assumption) ?r6
                case hi6 => (simp only [List.getElem?_toArray, List.getElem?_cons_succ, List.getElem?_cons_zero]; try rfl)
                case w6 => rfl
                case y6 => (intro w hSw; (try dsimp only at hSw); go_simp; (try with_reducible rfl))
                (try simp only [Act.put, List.setIfInBounds_toArray, List.set_cons_zero, List.set_cons_succ])
                refine wpAnyH_take (i := 7) (oi := ?o7) (v := ?v7) ?hi7 (by kernel_rfl) (by kernel_rfl) (by kernel_rfl) (fun _ _ _ h => h) (Or.inl ⟨?w7, ?y7⟩) (by assumption) ?r7
                case hi7 => (simp only [List.getElem?_toArray, List.getElem?_cons_succ, List.getElem?_cons_zero]; try rfl)
                case w7 => rfl
                case y7 => (intro w hSw; (try dsimp only at hSw); go_simp; (try with_reducible rfl))
                (try simp only [Act.put, List.setIfInBounds_toArray, List.set_cons_zero, List.set_cons_succ])
                refine wpAnyH_take (i := 8) (oi := ?o8) (v := ?v8) ?hi8 (by kernel_rfl) (by kernel_rfl) (by kernel_rfl) (fun _ _ _ h => h) (Or.inl ⟨?w8, ?y8⟩) (by assumption) ?r8
                case hi8 => (simp only [List.getElem?_toArray, List.getElem?_cons_succ, List.getElem?_cons_zero]; try rfl)
                case w8 => rfl
                case y8 => (intro w hSw; (try dsimp only at hSw); go_simp; (try with_reducible rfl))
                (try simp only [Act.put, List.setIfInBounds_toArray, List.set_cons_zero, List.set_cons_succ])
                refine wpAnyH_take (i := 9) (oi := ?o9) (v := ?v9) ?hi9 (by kernel_rfl) (by kernel_rfl) (by kernel_rfl) (fun _ _ _ h => h) (Or.inl ⟨?w9, ?y9⟩) (by assumption) ?r9
                case hi9 => (simp only [List.getElem?_toArray, List.getElem?_cons_succ, List.getElem?_cons_zero]; try rfl)
                case w9 => rfl
                case y9 => (intro w hSw; (try dsimp only at hSw); go_simp; (try with_reducible rfl))
                (try simp only [Act.put, List.setIfInBounds_toArray, List.set_cons_zero, List.set_cons_succ])
                refine wpAnyH_take (i := 10) (oi := ?o10) (v := ?v10) ?hi10 (by kernel_rfl) (by kernel_rfl) (by kernel_rfl) (fun _ _ _ h => h) (Or.inl ⟨?w10, ?y10⟩) (by assumption) ?r10
                case hi10 => (simp only [List.getElem?_toArray, List.getElem?_cons_succ, List.getElem?_cons_zero]; try rfl)
                case w10 => rfl
                case y10 => (intro w hSw; (try dsimp only at hSw); go_simp; (try with_reducible rfl))
                (try simp only [Act.put, List.setIfInBounds_toArray, List.set_cons_zero, List.set_cons_succ])
                refine wpAnyH_take (i := 11) (oi := ?o11) (v := ?v11) ?hi11 (by kernel_rfl) (by kernel_rfl) (by kernel_rfl) (fun _ _ _ h => h) (Or.inl ⟨?w11, ?y11⟩) (by assumption) ?r11
                case hi11 => (simp only [List.getElem?_toArray, List.getElem?_cons_succ, List.getElem?_cons_zero]; try rfl)
                case w11 => rfl
                case y11 => (intro w hSw; (try dsimp only at hSw); go_simp; (try with_reducible rfl))
                (try simp only [Act.put, List.setIfInBounds_toArray, List.set_cons_zero, List.set_cons_succ])
                refine wpAnyH_take (i := 12) (oi := ?o12) (v := ?v12) ?hi12 (by kernel_rfl) (by kernel_rfl) (by kernel_rfl) (fun _ _ _ h => h) (Or.inl ⟨?w12, ?y12⟩) (by assumption) ?r12
                case hi12 => (simp only [List.getElem?_toArray, List.getElem?_cons_succ, List.getElem?_cons_zero]; try rfl)
                case w12 => rfl
                case y12 => (intro w hSw; (try dsimp only at hSw); go_simp; (try with_reducible rfl))
                (try simp only [Act.put, List.setIfInBounds_toArray, List.set_cons_zero, List.set_cons_succ])
                refine wpAnyH_take (i := 13) (oi := ?o13) (v := undef) ?hi13 (by kernel_rfl) (by kernel_rfl) (by kernel_rfl) (fun _ _ _ h => h) (Or.inr ⟨?w13, rfl⟩) (by assumption) ?r13
                case hi13 => (simp only [List.getElem?_toArray, List.getElem?_cons_succ, List.getElem?_cons_zero]; try rfl)
                case w13 => rfl
                (try simp only [Act.put, List.setIfInBounds_toArray, List.set_cons_zero, List.set_cons_succ])
                refine wpAnyH_take (i := 14) (oi := ?o14) (v := undef) ?hi14 (by kernel_rfl) (by kernel_rfl) (by kernel_rfl) (fun _ _ _ h => h) (Or.inr ⟨?w14, rfl⟩) (by assumption) ?r14
                case hi14 => (simp only [List.getElem?_toArray, List.getElem?_cons_succ, List.getElem?_cons_zero]; try rfl)
                case w14 => rfl
                (try simp only [Act.put, List.setIfInBounds_toArray, List.set_cons_zero, List.set_cons_succ])
                refine wpAnyH_take (i := 15) (oi := ?o15) (v := undef) ?hi15 (by kernel_rfl) (by kernel_rfl) (by kernel_rfl) (fun _ _ _ h => h) (Or.inr ⟨?w15, rfl⟩) (by assumption) ?r15
                case hi15 => (simp only [List.getElem?_toArray, List.getElem?_cons_succ, List.getElem?_cons_zero]; try rfl)
                case w15 => rfl
                (try simp only [Act.put, List.setIfInBounds_toArray, List.set_cons_zero, List.set_cons_succ])
                refine wpAnyH_take (i := 16) (oi := ?o16) (v := undef) ?hi16 (by kernel_rfl) (by kernel_rfl) (by kernel_rfl) (fun _ _ _ h => h) (Or.inr ⟨?w16, rfl⟩) (by assumption) ?r16
                case hi16 => (simp only [List.getElem?_toArray, List.getElem?_cons_succ, List.getElem?_cons_zero]; try rfl)
                case w16 => rfl
                (try simp only [Act.put, List.setIfInBounds_toArray, List.set_cons_zero, List.set_cons_succ])
                refine wpAnyH_take (i := 17) (oi := ?o17) (v := ?v17) ?hi17 (by kernel_rfl) (by kernel_rfl) (by kernel_rfl) (fun _ _ _ h => h) (Or.inl ⟨?w17, ?y17⟩) (by assumption) ?r17
                case hi17 => (simp only [List.getElem?_toArray, List.getElem?_cons_succ, List.getElem?_cons_zero]; try rfl)
                case w17 => rfl
                case y17 => (intro w hSw; (try dsimp only at hSw); go_simp; (try with_reducible rfl))
                (try simp only [Act.put, List.setIfInBounds_toArray, List.set_cons_zero, List.set_cons_succ])
                refine wpAnyH_take (i := 19) (oi := ?o19) (v := ?v19) ?hi19 (by kernel_rfl) (by kernel_rfl) (by kernel_rfl) (fun _ _ _ h => h) (Or.inl ⟨?w19, ?y19⟩) (by assumption) ?r19
                case hi19 => (simp only [List.getElem?_toArray, List.getElem?_cons_succ, List.getElem?_cons_zero]; try rfl)
                case w19 => rfl
                case y19 => (intro w hSw; (try dsimp only at hSw); go_simp; (try with_reducible rfl))
                (try simp only [Act.put, List.setIfInBounds_toArray, List.set_cons_zero, List.set_cons_succ])
                refine wpAnyH_ready (rs := [18]) (by kernel_rfl) (by simp) ?_
                refine AllReadyH.cons (o := ?o18) ?hi18 (fun K hK => ?_) AllReadyH.nil
                case hi18 => (simp only [List.getElem?_toArray, List.getElem?_cons_succ, List.getElem?_cons_zero]; try rfl)
                go_simp
                (go_at_call 14; refine (HV.out false _ (HBQ.out.keep (Keep.refl NoF wr).drew)).mono ?_; rintro e w8 ⟨rfl, hB8, hk8⟩; have HB8 := Lib.hid hB8; have K8 := Lib.hid (KQ.out.trans (hk8.of_drew : Keep (VF by_ bn) wr w8) (fun _ _ f => f) (fun j hj f => by have := HF.out; rcases f with f | f <;> omega)); clear hB8 hk8)
                go_wp2_with fail
                refine hK.out _ _ (HD1.out _ K8.out) (fun hHeld => ?_)
                clear hK K
                (try simp only [Act.put, List.setIfInBounds_toArray, List.set_cons_zero, List.set_cons_succ])
                refine wpAnyH_take (i := 20) (oi := ?o20) (v := ?v20) ?hi20 (by kernel_rfl) (by kernel_rfl) (by kernel_rfl) (fun _ _ _ h => h) (Or.inl ⟨?w20, ?y20⟩) (by assumption) ?r20
                case hi20 => (simp only [List.getElem?_toArray, List.getElem?_cons_succ, List.getElem?_cons_zero]; try rfl)
                case w20 => rfl
                case y20 => (intro w hSw; (try dsimp only at hSw); go_simp; (try with_reducible rfl))
                (try simp only [Act.put, List.setIfInBounds_toArray, List.set_cons_zero, List.set_cons_succ])
                refine wpAnyH_take (i := 21) (oi := ?o21) (v := ?v21) ?hi21 (by kernel_rfl) (by kernel_rfl) (by kernel_rfl) (fun _ _ _ h => h) (Or.inl ⟨?w21, ?y21⟩) (by assumption) ?r21
                case hi21 => (simp only [List.getElem?_toArray, List.getElem?_cons_succ, List.getElem?_cons_zero]; try rfl)
                case w21 => rfl
                case y21 => (intro w hSw; (try dsimp only at hSw); go_simp; (try with_reducible rfl))
                (try simp only [Act.put, List.setIfInBounds_toArray, List.set_cons_zero, List.set_cons_succ])
                refine wpAnyH_done (by kernel_rfl) ?_ _
                refine NoPanic.normal ?_
                all_goals
                  go_wp2_with fail
                  go_roundw
                  case rel => exact ⟨i + 1, by omega, by omega, by go_num, HB8.out, K8.out⟩
                  case measure => simp [intOf]; omega
            · clear hmb
              go_wp2_with fail
              go_quiet (fail)
              go_wp2_with fail
              go_roundw
              case rel => exact ⟨i + 1, by omega, by omega, by go_num, (HBQ.out.mono (by omega)).keep ((Keep.refl NoF wr).drewN _), KQ.out.drewN _⟩
              case measure => simp [intOf]; omega
      · have hx2 : ¬ (i : Int) < l1.length ∨ ((i : Int) < l1.length ∧ ¬ (i : Int) < 15) := by omega
        have hhow := how_any p by_ bn (1000 + i) ks (fun _ => false) [] wr HBR.out (by omega)
        rw [HH.out] at hhow
        have HHW := Lib.hid hhow
        have HM := Lib.hid (fun W hW => missing_any p by_ bn (1000 + i) ks (fun _ => false) [] W hW (by omega))
        have HVT := Lib.hid (fun W hW => voters_any p by_ bn (1000 + i) ks (fun _ => false) [] W hW (by omega))
        clear hhow hgo
        rcases hx2 with hx1 | ⟨hx1, hx2⟩
        all_goals
          go_wp2_with fail
          refine HHW.out.mono ?_
          rintro e w4 ⟨rfl, hk4⟩
          have HB4 := Lib.hid (HBR.out.keep hk4); have K4 := Lib.hid (KR.out.trans' hk4)
          clear hk4
          go_wp2_with fail
          refine (HM.out w4 HB4.out).mono ?_
          rintro e w5 ⟨v, rfl, hrow, hk5, _⟩
          rw [miss_all] at hrow
          obtain ⟨ao, cp, rfl⟩ := row_slice hrow
          have HB5 := Lib.hid (HB4.out.keep hk5); have K5 := Lib.hid (K4.out.trans' hk5)
          clear hrow hk5
          go_wp2_with fail
          refine (HVT.out w5 HB5.out).mono ?_
          rintro e w6 ⟨v, rfl, hrow, _, hk6⟩
          obtain ⟨ao2, cp2, rfl⟩ := row_slice hrow
          have K6 := Lib.hid (K5.out.trans' hk6)
          clear hrow hk6
          generalize (sortD ks).length = L
          go_wp2_with fail
          go_ret
          exact ⟨rfl, K6.out⟩

set_option linter.unusedVariables false
set_option maxRecDepth 100000 in
theorem lifted (os : Os) (started : os.Started) (H : Type) (enc : TypeId × Value → H) :
    ReturnsInHanded {} Try.checked os 7 .any (Rows.voteStrangersSpec.pre6 enc Try.prog Try.f7 Rows.voteStrangersRow.domain false) (Rows.voteStrangersSpec.post enc Try.prog Try.f7 false true false false) := by
  refine returnsInHanded_of_change (C := Try.checked) own started (by kernel_rfl) Try.func7
    (ChangeSpec.witness6 (enc := enc) (C := Try.checked) false ⟨#[], #[.slice none 0 0, .slice none 0 0, .slice none 0 0], []⟩ 8 (by kernel_rfl) (by kernel_rfl) (by kernel_rfl) (by kernel_rfl)) ?_
  intro W base args ds gs before hval0 hW hcnd _
  have hval : ∀ (j : Nat) t v, Try.f7.params[j]? = some t → args[j]? = some v → Value.okWide Try.prog W .any base t v := hval0
  have hW' := hW
  obtain ⟨p, q, hA0, hV, rfl, hfz, hnd⟩ := hW
  have hA : DataW.TrodAll enc Try.prog W 0 (fun _ => true) true Try.f7.params.toList args.toList ds p := hA0
  rw [Try.params7] at hA hval
  obtain ⟨v0, vs0, d0, ds0, p0, q0, hargs, rfl, rfl, h0, r0⟩ := trodAll_cons hA
  obtain ⟨v1, vs1, d1, ds1, p1, q1, rfl, rfl, rfl, h1, r1⟩ := trodAll_cons r0
  obtain ⟨v2, vs2, d2, ds2, p2, q2, rfl, rfl, rfl, h2, r2⟩ := trodAll_cons r1
  obtain ⟨rfl, rfl, rfl⟩ := trodAll_nil r2
  obtain rfl : args = #[v0, v1, v2] := by cases args; simp_all
  obtain ⟨rfl, rfl⟩ := trodVars_none hV
  obtain ⟨a0, len0, cap0, rfl⟩ := okWide_slice Try.underlying22 (hval 0 22 v0 rfl rfl)
  have k0 := h0
  have lt0 : ∀ x ∈ p0, x.block < W.heap.size := by obtain ⟨m, hm⟩ := k0; exact DataW.trod_lt m _ _ _ hm
  obtain ⟨z0, w0⟩ : ∃ zs, IsRow .i64 W a0 len0 cap0 zs := by
    obtain ⟨fuel, hf⟩ := h0
    rcases open_ints Try.underlying22 Try.underlying3 (by kernel_rfl) hf with ⟨hcs, _⟩ | ⟨x, l, c, zs, hcs, _, hl, hm, hz, _, hcell, hwz⟩
    · simp [Value.cells] at hcs
      obtain ⟨rfl, rfl, rfl⟩ := hcs
      exact ⟨[], .inl ⟨rfl, rfl, rfl, rfl⟩⟩
    · simp [Value.cells] at hcs
      obtain ⟨rfl, rfl, rfl⟩ := hcs
      exact ⟨zs, .inr ⟨_, rfl, hl, hm, by simpa using hz, hcell, hwz⟩⟩
  obtain ⟨a1, len1, cap1, rfl⟩ := okWide_slice Try.underlying22 (hval 1 22 v1 rfl rfl)
  have k1 := h1
  have lt1 : ∀ x ∈ p1, x.block < W.heap.size := by obtain ⟨m, hm⟩ := k1; exact DataW.trod_lt m _ _ _ hm
  obtain ⟨z1, w1⟩ : ∃ zs, IsRow .i64 W a1 len1 cap1 zs := by
    obtain ⟨fuel, hf⟩ := h1
    rcases open_ints Try.underlying22 Try.underlying3 (by kernel_rfl) hf with ⟨hcs, _⟩ | ⟨x, l, c, zs, hcs, _, hl, hm, hz, _, hcell, hwz⟩
    · simp [Value.cells] at hcs
      obtain ⟨rfl, rfl, rfl⟩ := hcs
      exact ⟨[], .inl ⟨rfl, rfl, rfl, rfl⟩⟩
    · simp [Value.cells] at hcs
      obtain ⟨rfl, rfl, rfl⟩ := hcs
      exact ⟨zs, .inr ⟨_, rfl, hl, hm, by simpa using hz, hcell, hwz⟩⟩
  obtain ⟨a2, len2, cap2, rfl⟩ := okWide_slice Try.underlying34 (hval 2 34 v2 rfl rfl)
  have k2 := h2
  have lt2 : ∀ x ∈ p2, x.block < W.heap.size := by obtain ⟨m, hm⟩ := k2; exact DataW.trod_lt m _ _ _ hm
  obtain ⟨z2, w2⟩ := open_arg2 W base h2
  clear hA0 hval0
  refine (walk W a0 len0 cap0 z0 w0 a1 len1 cap1 z1 w1 a2 len2 cap2 z2 w2).mono fun e W' ⟨he, hk⟩ => ?_
  subst he
  have bel := Keep.below hk
  exact ⟨_, rfl, _, _, _, [], _, [], hW', trodAll_mk1 (shut_bool Try.underlying4 _), (trodAll_cons_mk (Below.trod laidOut (by kernel_rfl) (of_decide_eq_true (by kernel_rfl)) k0 bel lt0) (trodAll_cons_mk (Below.trod laidOut (by kernel_rfl) (of_decide_eq_true (by kernel_rfl)) k1 bel lt1) (trodAll_cons_mk (Below.trod laidOut (by kernel_rfl) (of_decide_eq_true (by kernel_rfl)) k2 bel lt2) trodAll_mk0))), rfl, bel.frame _, fun h => by cases h⟩

theorem over : Rows.voteStrangersRow.holds Try.pinned (OpenSpec.ofChange Rows.voteStrangersSpec) :=
  OpenClaim.holds_of_wide 7 Try.f7 rfl rfl rfl rfl rfl rfl rfl ⟨rfl, rfl, rfl, rfl, rfl⟩ rfl rfl rfl rfl rfl (by kernel_rfl) Try.func7 (by kernel_rfl)
    (of_decide_eq_true (by kernel_rfl)) (by unfold Func.isWrapper; rw [if_neg (of_decide_eq_false (by kernel_rfl))]; exact ⟨rfl, rfl⟩)
    (fun os started H enc _ => lifted os started H enc)

/-- The statement. -/
theorem proved : Rows.VoteStrangersSaid := over
#print axioms proved
end Go.Proofs.Ytlbpmhpcoihlnaa.voteStrangers
