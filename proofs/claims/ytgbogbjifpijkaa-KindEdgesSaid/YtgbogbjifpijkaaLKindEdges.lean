/- KindEdges: the law returns true and changes nothing that was there. No conditions. -/
import Derived.Test.YtgbogbjifpijkaaLaw8
import Derived.Test.YtgbogbjifpijkaaRows
import Derived.WalkKit
import Derived.ProofKit
import Derived.OpenShut
import Derived.ShutString
import Derived.ChangeOld
import Derived.Below
namespace Go.Proofs.Ytgbogbjifpijkaa.kindEdges
open Go Go.ChangeShapes Go.WideShapes Go.ChangeAt Go.RowKit
open Go.ChangeMaps (open_string shut_string)

theorem own : ownKnob Try.prog.godebug = none := by kernel_rfl
theorem laidOut : laidOutB Try.prog = true := by kernel_rfl

theorem wpList_mk {P : Program} {w : World} {ops : Array Oper} {rest : List Oper} {o : Oper} {a : Act} {Q : Exit → Act → World → Prop}
    (t e : TypeId) (z : Value) (bytes : Nat) (ht : P.underlying t = some (.slice e)) (hinfo : (P.info? e).map (fun i => (i.zero, i.size, i.bytes)) = some (some z, 1, bytes)) (hz1 : z.cells = #[z])
    (hg : o.guard = none) {l c : Operand} (hop : o.op = Op.makeSlice t l c) {kl kc : IntKind} (n : Nat) (hl : a.eval l = .int kl (n : Int)) (hc : a.eval c = .int kc (n : Int)) (hb : bytes * n ≤ 281474976710656) (hm : n ≤ maxLen)
    (hK : ∀ w', w'.ownsRow 0 e 1 (.slice (some ⟨w.heap.size, 0, none⟩) n n) n (List.replicate n z) → w.grownBy w' none → wpList P ops Q rest (a.put o.dst (.slice (some ⟨w.heap.size, 0, none⟩) n n)) w') :
    wpList P ops Q (o :: rest) a w := by
  obtain ⟨i, hi, hz, hsize, hby⟩ := info_parts hinfo
  refine wpList_make_full w hg l c t hop 0 e i z 1 ht hi hz hsize kl kc n n n hl hc rfl rfl (by rw [hby]; exact hb) hm (Nat.zero_le _) ?_
  intro w' h1 h2
  rw [hz1, Nat.mul_one, toList_madeCells_one] at h1
  exact hK w' h1 h2
theorem bvs_fill (x : UInt8) (n k : Nat) (hk : k < n) : (bvs (List.replicate k x ++ List.replicate (n - k) 0)).set k (bval x) = bvs (List.replicate (k + 1) x ++ List.replicate (n - (k + 1)) 0) := by
  have e : n - k = (n - (k + 1)) + 1 := by omega
  rw [e, List.replicate_succ, bvs, ← List.map_set, List.set_append_right _ _ (by simp), List.length_replicate, Nat.sub_self, List.set_cons_zero, List.replicate_succ', bvs]
  simp
theorem bvs_replicate0 (n : Nat) : bvs (List.replicate n 0) = List.replicate n (.int .u8 0) := by simp [bvs, bval]
theorem queue_fill (x : UInt8) (m : Nat) : queueB (bstr (List.replicate m x)) = ((decide (m = 0) || lowB x) && (decide (1 ≤ m) && decide (m ≤ 8))) := by
  have hs : (bstr (List.replicate m x)).size = m := by rw [bstr_size, List.length_replicate]
  unfold queueB
  rw [hs]
  congr 1
  rw [Bool.eq_iff_iff, allN_iff]
  have hd : (bstr (List.replicate m x)).data.toList = List.replicate m x := by simp [bstr]
  rw [hd]
  constructor
  · intro h
    rcases Nat.eq_zero_or_pos m with h0 | h0
    · simp [h0]
    · have := h 0 h0
      simp [h0] at this
      simp [this]
  · intro h k hk
    rw [List.getD_eq_getElem?_getD, List.getElem?_eq_getElem (by simpa using hk), Option.getD_some, List.getElem_replicate]
    simp at h
    rcases h with h | h
    · omega
    · exact h

set_option maxHeartbeats 4000000 in
theorem walk (w : World) (n : Int) (hn : (Lit.int .i64 n).wf = true) (x : Int) (hx : (Lit.int .u8 x).wf = true) :
    Calls Try.prog 10 #[.int .i64 n, .int .u8 x] w fun e w' => e = .returned (.bool true) ∧ Keep NoF w w' := by
  have bn := bounds_i64 hn
  obtain ⟨xb, hxb⟩ := u8_of (bounds_u8 hx)
  subst hxb
  clear hn hx
  go_enter Try.func10, Try.ntmps10
  go_wp2_with fail
  refine (begun8_any w).mono ?_
  rintro e w1 ⟨rfl, hk⟩
  have K1 := Lib.hid hk; clear hk
  by_cases hneg : n < 0
  · go_wp2_with fail
    go_ret
    exact ⟨rfl, K1.out⟩
  · have hneg2 : 0 ≤ n := by omega
    clear hneg
    by_cases hbig : 70 < n
    · go_wp2_with fail
      go_ret
      exact ⟨rfl, K1.out⟩
    · have hbig2 : n ≤ 70 := by omega
      clear hbig
      obtain ⟨m, rfl⟩ : ∃ m : Nat, n = m := ⟨n.toNat, by omega⟩
      have hm70 : m ≤ 70 := by omega
      go_wp2_with (at_make; refine wpList_mk 24 5 (.int .u8 0) 1 Try.underlying24 infoU8 rfl rfl rfl m rfl rfl (by omega) (by unfold maxLen; omega) ?_)
      intro w2 hown hgr
      have K2 := Lib.hid (K1.out.grown hgr (fun k _ e => by cases e) : Keep NoF w w2)
      have O2 : Hid (w2.ownsRow 0 5 1 (.slice (some ⟨w1.heap.size, 0, none⟩) m m) m (bvs (List.replicate 0 xb ++ List.replicate (m - 0) 0))) := by
        show World.ownsRow _ _ _ _ _ _ _
        rw [List.replicate_zero, List.nil_append, Nat.sub_zero, bvs_replicate0]; exact hown
      have hwB : Hid (w.heap.size ≤ w1.heap.size) := K1.out.size
      clear hown hgr
      generalize w1.heap.size = B at O2 hwB ⊢
      go_wp2_with fail
      go_loopw [22] (fun i wr => ∃ k : Nat, k ≤ m ∧ i = .int .i64 k ∧ wr.ownsRow 0 5 1 (.slice (some ⟨B, 0, none⟩) m m) m (bvs (List.replicate k xb ++ List.replicate (m - k) 0)) ∧ Keep NoF w wr) (fun i _ => m - (intOf i).toNat)
      case atStart => exact ⟨0, Nat.zero_le _, rfl, O2.out, K2.out⟩
      case round =>
        obtain ⟨k, hk, rfl, hO, hK⟩ := hrel
        clear O2 K2
        by_cases hlt : k < m
        · have hst := hO.stored k (bval xb)
          rw [bvs_fill xb m k hlt] at hst
          obtain ⟨vold, hcd⟩ : ∃ v, wr.cell? ⟨B, k, none⟩ = some v := ⟨_, by rw [hO.cellAt k (by omega)]; exact List.getElem?_eq_getElem (by have := hO.1; omega)⟩
          have hfd := hO.frozenAt k
          have y0 := xb.toNat_lt
          have Hst := Lib.hid hst; have HK := Lib.hid hK
          clear hst hO hK
          go_wp2_with fail
          go_roundw
          case rel => exact ⟨k + 1, by omega, by go_num, Hst.out.1, HK.out.setCell (p := ⟨B, k, none⟩) (fun h => by have := hwB.out; simp only at h; omega) (bval xb)⟩
          case measure => simp [intOf]; omega
        · obtain rfl : k = m := by omega
          have hO' : OwnB wr (.slice (some ⟨B, 0, none⟩) k k) (List.replicate k xb) := by
            have e : List.replicate k xb ++ List.replicate (k - k) 0 = List.replicate k xb := by rw [Nat.sub_self, List.replicate_zero, List.append_nil]
            rw [e] at hO
            rw [OwnB, List.length_replicate]; exact hO
          obtain ⟨ao', cp', e4, sd, _⟩ := hO'.slb
          rw [List.length_replicate] at e4
          injection e4 with e4 e5 e6
          subst e4 e6
          have hcv := fun W hk => run_convert_SlB (P := Try.prog) (sd.keep (w' := W) hk (fun _ _ f => f)) (src := 24) (dst := 9) Try.underlying24 Try.underlying5 Try.underlying9
          rw [List.length_replicate] at hcv
          have hq := queue_fill xb k
          have hbs : (bstr (List.replicate k xb)).size = k := by rw [bstr_size, List.length_replicate]
          have hbb : bodyB (bstr (List.replicate k xb)) = decide ((k : Int) ≤ 60) := by rw [bodyB, hbs, decide_eq_decide]; omega
          have hkq := fun W => kqueue_any (bstr (List.replicate k xb)) W (by rw [hbs]; unfold maxLen; omega)
          have hkb := fun W => kbody_any (bstr (List.replicate k xb)) W
          rw [hbb] at hkb
          obtain ⟨q, hqq⟩ : ∃ q, queueB (bstr (List.replicate k xb)) = q := ⟨_, rfl⟩
          rw [hqq] at hkq hq
          have HK := Lib.hid hK; have HCV := Lib.hid hcv; have HQ := Lib.hid hq; have HKQ := Lib.hid hkq; have HKB := Lib.hid hkb
          have hc1 := hcv wr (Keep.refl _ _)
          have y0 := xb.toNat_lt
          clear hO hO' sd hK e5 hcv hq hbs hbb hkq hkb hqq
          generalize bstr (List.replicate k xb) = bs at hc1 HCV HKQ HKB
          by_cases l1 : 97 ≤ xb.toNat ∧ xb.toNat ≤ 122
          · have l2 : (97 : Int) ≤ xb.toNat := by omega
            have l3 : (xb.toNat : Int) ≤ 122 := by omega
            have hq2 : q = (decide (1 ≤ k) && decide (k ≤ 8)) := by rw [HQ.out]; simp [lowB, l1.1, l1.2]
            have HQ2 := Lib.hid hq2
            clear hq2 l1
            by_cases k0 : k = 0
            · subst k0
              obtain rfl : q = false := HQ2.out
              go_wp2_with fail
              refine (HKQ.out _).mono ?_
              rintro e w5 ⟨rfl, rfl⟩
              have hc2 := HCV.out w5 (Keep.refl _ _)
              go_wp2_with fail
              refine (HKB.out _).mono ?_
              rintro e w6 ⟨rfl, rfl⟩
              go_wp2_with fail
              go_ret
              exact ⟨rfl, HK.out⟩
            · have k1 : (1 : Int) ≤ k := by omega
              have kz : ((k : Int) == 0) = false := by simp; exact k0
              have hq3 : q = decide ((k : Int) ≤ 8) := by rw [HQ2.out, decide_eq_true (show 1 ≤ k by omega), Bool.true_and, decide_eq_decide]; omega
              subst hq3
              clear k0
              go_wp2_with fail
              refine (HKQ.out _).mono ?_
              rintro e w5 ⟨rfl, rfl⟩
              have hc2 := HCV.out w5 (Keep.refl _ _)
              go_wp2_with fail
              all_goals
                refine (HKB.out _).mono ?_
                rintro e w6 ⟨rfl, rfl⟩
                go_wp2_with fail
                go_ret
                exact ⟨rfl, HK.out⟩
          · have hq2 : q = false := by
              rw [HQ.out]
              rcases Nat.eq_zero_or_pos k with h0 | h0
              · subst h0; simp
              · have : lowB xb = false := by simp [lowB]; omega
                rw [this]; simp; omega
            subst hq2
            have k4 : k = 0 ∨ (1 : Int) ≤ k := by omega
            have l4 : (xb.toNat : Int) < 97 ∨ ((97 : Int) ≤ xb.toNat ∧ (122 : Int) < xb.toNat) := by omega
            clear l1
            rcases l4 with l4 | ⟨l4, l5⟩
            all_goals
              rcases k4 with rfl | k4
              case inl =>
                go_wp2_with fail
                refine (HKQ.out _).mono ?_
                rintro e w5 ⟨rfl, rfl⟩
                have hc2 := HCV.out w5 (Keep.refl _ _)
                go_wp2_with fail
                refine (HKB.out _).mono ?_
                rintro e w6 ⟨rfl, rfl⟩
                go_wp2_with fail
                go_ret
                exact ⟨rfl, HK.out⟩
              case inr =>
                have kz : ((k : Int) == 0) = false := by simp; omega
                go_wp2_with fail
                refine (HKQ.out _).mono ?_
                rintro e w5 ⟨rfl, rfl⟩
                have hc2 := HCV.out w5 (Keep.refl _ _)
                go_wp2_with fail
                all_goals
                  refine (HKB.out _).mono ?_
                  rintro e w6 ⟨rfl, rfl⟩
                  go_wp2_with fail
                  go_ret
                  exact ⟨by first | rfl | (show Ending.returned (.bool (!decide ((xb.toNat : Int) ≤ 122))) = _; simp; omega), HK.out⟩

set_option linter.unusedVariables false
set_option maxRecDepth 100000 in
theorem lifted (os : Os) (started : os.Started) (H : Type) (enc : TypeId × Value → H) :
    ReturnsInHanded {} Try.checked os 10 .any (Rows.kindEdgesSpec.pre6 enc Try.prog Try.f10 Rows.kindEdgesRow.domain false) (Rows.kindEdgesSpec.post enc Try.prog Try.f10 false true false false) := by
  refine returnsInHanded_of_change (C := Try.checked) own started (by kernel_rfl) Try.func10
    (ChangeSpec.witness6 (enc := enc) (C := Try.checked) false ⟨#[], #[.int .i64 0, .int .u8 0], []⟩ 8 (by kernel_rfl) (by kernel_rfl) (by kernel_rfl) (by kernel_rfl)) ?_
  intro W base args ds gs before hval0 hW hcnd _
  have hval : ∀ (j : Nat) t v, Try.f10.params[j]? = some t → args[j]? = some v → Value.okWide Try.prog W .any base t v := hval0
  have hW' := hW
  obtain ⟨p, q, hA0, hV, rfl, hfz, hnd⟩ := hW
  have hA : DataW.TrodAll enc Try.prog W 0 (fun _ => true) true Try.f10.params.toList args.toList ds p := hA0
  rw [Try.params10] at hA hval
  obtain ⟨v0, vs0, d0, ds0, p0, q0, hargs, rfl, rfl, h0, r0⟩ := trodAll_cons hA
  obtain ⟨v1, vs1, d1, ds1, p1, q1, rfl, rfl, rfl, h1, r1⟩ := trodAll_cons r0
  obtain ⟨rfl, rfl, rfl⟩ := trodAll_nil r1
  obtain rfl : args = #[v0, v1] := by cases args; simp_all
  obtain ⟨rfl, rfl⟩ := trodVars_none hV
  obtain ⟨a0, rfl, rfl, rfl, w0⟩ := open_int Try.underlying3 (hval 0 3 v0 rfl rfl) h0
  obtain ⟨a1, rfl, rfl, rfl, w1⟩ := open_int Try.underlying5 (hval 1 5 v1 rfl rfl) h1
  clear hA0 hval0
  refine (walk W a0 w0 a1 w1).mono fun e W' ⟨he, hk⟩ => ?_
  subst he
  have bel := Keep.below hk
  exact ⟨_, rfl, _, _, _, [], _, [], hW', trodAll_mk1 (shut_bool Try.underlying4 _), (trodAll_cons_mk (shut_int Try.underlying3 w0) (trodAll_cons_mk (shut_int Try.underlying5 w1) trodAll_mk0)), rfl, bel.frame _, fun h => by cases h⟩

theorem over : Rows.kindEdgesRow.holds Try.pinned (OpenSpec.ofChange Rows.kindEdgesSpec) :=
  OpenClaim.holds_of_wide 10 Try.f10 rfl rfl rfl rfl rfl rfl rfl ⟨rfl, rfl, rfl, rfl, rfl⟩ rfl rfl rfl rfl rfl (by kernel_rfl) Try.func10 (by kernel_rfl)
    (of_decide_eq_true (by kernel_rfl)) (by unfold Func.isWrapper; rw [if_neg (of_decide_eq_false (by kernel_rfl))]; exact ⟨rfl, rfl⟩)
    (fun os started H enc _ => lifted os started H enc)

/-- The statement. -/
theorem proved : Rows.KindEdgesSaid := over
#print axioms proved
end Go.Proofs.Ytgbogbjifpijkaa.kindEdges
