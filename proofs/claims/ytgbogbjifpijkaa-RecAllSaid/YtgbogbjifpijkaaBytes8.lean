/- The document's bytes of a record. -/
import Derived.Test.YtgbogbjifpijkaaAppB
import Derived.Test.YtgbogbjifpijkaaDec
open Go Go.RowKit
namespace Go.Proofs.Ytgbogbjifpijkaa

theorem enc_head (k t i : Int) (y : Bool) (ps : List Int) (us : List PutV) : encB ⟨k, t, i, y, ps, us⟩ = (smallB k ++ longB t) ++ ((if hasId k then longB i else []) ++ ((if hasYes k then truthB y else []) ++
    ((if hasParts k then smallB ps.length ++ partsB ps else []) ++ (if hasPuts k then smallB us.length ++ putsBytes us else [])))) := by
  unfold encB
  simp only [List.append_assoc]
theorem partsB_snoc (ps : List Int) (j : Nat) (h : j < ps.length) : partsB (ps.take (j + 1)) = partsB (ps.take j) ++ smallB ps[j] := by
  rw [List.take_succ_eq_append_getElem h, partsB, List.flatMap_append]; simp [partsB]
theorem putsBytes_snoc (us : List PutV) (j : Nat) (h : j < us.length) : putsBytes (us.take (j + 1)) = (putsBytes (us.take j) ++ textB us[j].q.data.toList) ++ textB us[j].b.data.toList := by
  rw [List.take_succ_eq_append_getElem h, putsBytes, List.flatMap_append]; simp [putsBytes]
theorem partsB_len (ps : List Int) : (partsB ps).length = 2 * ps.length := by
  induction ps with
  | nil => rfl
  | cons x l ih => simp only [partsB, List.flatMap_cons, List.length_append, smallB_length] at ih ⊢; rw [ih, List.length_cons]; omega
theorem textB_lenle (s : List UInt8) (n : Nat) (h : s.length ≤ n) (hn : n < 65536) : (textB s).length ≤ 2 + n := by
  rw [textB_len, Nat.mod_eq_of_lt (by omega)]; omega
theorem putsBytes_len (us : List PutV) (h : ∀ p ∈ us, p.q.size ≤ 8 ∧ p.b.size ≤ 60) : (putsBytes us).length ≤ 72 * us.length := by
  induction us with
  | nil => simp [putsBytes]
  | cons p l ih =>
    have h1 := ih (fun q hq => h q (by simp [hq]))
    obtain ⟨h2, h3⟩ := h p (by simp)
    have h4 := textB_lenle p.q.data.toList 8 (by rw [ba_length]; exact h2) (by omega)
    have h5 := textB_lenle p.b.data.toList 60 (by rw [ba_length]; exact h3) (by omega)
    simp only [putsBytes, List.flatMap_cons, List.length_append, List.length_cons] at h1 ⊢
    omega

set_option maxHeartbeats 16000000 in
theorem rbytes_any (r : RecV) (a4 : Option Addr) (c4 : Nat) (a5 : Option Addr) (c5 : Nat) (w : World) (h : RecAt w r a4 c4 a5 c5) (hok : recB r = true) :
    Calls Try.prog 39 #[recVal r a4 c4 a5 c5] w fun e w' => ∃ v, e = .returned v ∧ OwnB w' v (encB r) ∧ Keep NoF w w' ∧ ∀ k, v.ownBlock = some k → w.heap.size ≤ k := by
  have h0 := (recB_iff r).1 hok
  obtain ⟨⟨hk1, hk9⟩, ht, hid, hy, hr, hp, hpp⟩ := h0
  have H := Lib.hid h
  obtain ⟨k, t, i, y, ps, us⟩ := r
  simp only at hk1 hk9 hr hp hpp
  have hr1 := (rising_mem hr).1
  have hm : mostOf k ≤ 7 := by unfold mostOf; split <;> (try split) <;> omega
  have hpo : putsOf k ≤ 10 := by unfold putsOf; split <;> omega
  have hps : ps.length ≤ 7 := by omega
  have hus : us.length ≤ 10 := by omega
  have hsz : ∀ p ∈ us, p.q.size ≤ 8 ∧ p.b.size ≤ 60 := fun p hp => putB_sizes (puts_mem hpp p hp)
  have HSZ := Lib.hid hsz
  have HE := Lib.hid (enc_head k t i y ps us)
  unfold recVal
  simp only
  clear h hid hy hr hp hpp hr1 hm hpo hsz hok ht
  go_enter Try.func39, Try.ntmps39
  go_wp2_with fail
  have hb := heap_new w (.cells (recCells k t i y (.slice a4 ps.length c4) (.slice a5 us.length c5)) 38 (0, 0))
  have hka : Keep NoF w (w.alloc (.cells (recCells k t i y (.slice a4 ps.length c4) (.slice a5 us.length c5)) 38 (0, 0))) := keep_alloc _ _
  show Code.wp _ _ _ _ (w.alloc (.cells (recCells k t i y (.slice a4 ps.length c4) (.slice a5 us.length c5)) 38 (0, 0)))
  generalize w.alloc (.cells (recCells k t i y (.slice a4 ps.length c4) (.slice a5 us.length c5)) 38 (0, 0)) = W1 at hb hka ⊢
  obtain ⟨B, hB⟩ : ∃ B, w.heap.size = B := ⟨_, rfl⟩
  rw [hB] at hb ⊢
  have HC : Hid (∀ W, Keep NoF W1 W → W.cell? ⟨B, 0, none⟩ = some (.int .i64 k) ∧ W.cell? ⟨B, 1, none⟩ = some (.int .i64 t) ∧ W.cell? ⟨B, 2, none⟩ = some (.int .i64 i) ∧ W.cell? ⟨B, 3, none⟩ = some (.bool y) ∧
      W.cell? ⟨B, 4, none⟩ = some (.slice a4 ps.length c4) ∧ W.cell? ⟨B, 5, none⟩ = some (.slice a5 us.length c5)) := by
    intro W hW
    have h2 : W.heap[B]? = some (.cells (recCells k t i y (.slice a4 ps.length c4) (.slice a5 us.length c5)) 38 (0, 0)) := by rw [hW.block B (lt_of_heap hb) (fun f => f)]; exact hb
    refine ⟨?_, ?_, ?_, ?_, ?_, ?_⟩
    all_goals (rw [cell_of_heap h2]; rfl)
  have HP : Hid (∀ W, Keep NoF W1 W → RecAt W ⟨k, t, i, y, ps, us⟩ a4 c4 a5 c5) := fun W hW => (H.out.keep hka).keep hW
  have KA := Lib.hid hka
  clear hb hka hB
  have KK : Hid (k = 1 ∨ k = 2 ∨ k = 3 ∨ k = 4 ∨ k = 5 ∨ k = 6 ∨ k = 7 ∨ k = 8 ∨ k = 9) := by refine Lib.hid ?_; omega
  obtain ⟨d0, d1, d2, d3, d4, d5⟩ := HC.out W1.drew (Keep.refl NoF W1).drew
  clear hk1 hk9
  go_region_law (first
    | (refine step_app 24 24 5 (.int .u8 0) 1 1 Try.underlying24 infoU8 rfl (by decide) (by decide) rfl rfl rfl rfl ACCB.out.own (own_srcN OWNB.out (longB_length t) Try.underlying24) (by rw [smallB_length]; omega) ?_; intro ao9 cp9 w9 hown9 hgr9 hfr9; have ACC := Lib.hid (ACCB.out.app hown9 rfl (longB_length t).symm rfl hgr9 hfr9); clear hown9 hgr9 hfr9)
    | (go_simp; go_at_call 64; refine (refSmall_any _ _).mono ?_; rintro e wa ⟨v1, rfl, ho1, hk1, hf1⟩; have ACCA : Hid (AccI W1 wa v1 (smallB k)) := Lib.hid ⟨ho1, hk1.of_drew, hf1⟩; obtain ⟨e0, e1, e2, e3, e4, e5⟩ := HC.out wa ACCA.out.keep; clear ho1 hk1 hf1)
    | (go_simp; go_at_call 65; refine (refLong_any _ _).mono ?_; rintro e wb ⟨v2, rfl, ho2, hk2, hf2⟩; have ACCB := Lib.hid (ACCA.out.still hk2); have OWNB := Lib.hid ho2; clear ho2 hk2 hf2))
  all_goals
    have hln : (smallB k ++ longB t).length = 10 := by rw [List.length_append, smallB_length, longB_length]
    have HLN := Lib.hid hln
    clear hln
    (try clear e0 e1 e2 e3 e4 e5)
    clear d0 d1 d2 d3 d4 d5
    generalize Value.slice ao9 _ cp9 = v9 at ACC ⊢
    obtain ⟨e0, e1, e2, e3, e4, e5⟩ := HC.out w9 ACC.out.keep
    rcases KK.out with rfl | rfl | rfl | rfl | rfl | rfl | rfl | rfl | rfl
    · go_wp2_with fail
      go_ret
      have he := HE.out
      rw [he]
      simp only [hasId, hasYes, hasParts, hasPuts]
      exact ⟨_, rfl, by simpa using ACC.out.final KA.out⟩
    · go_wp2_with fail
      refine (refLong_any i _).mono ?_
      rintro e wx ⟨vx, rfl, hox, hkx, hfx⟩
      have ACCX := Lib.hid (ACC.out.still hkx)
      have OWNX := Lib.hid hox
      have hrow := ACCX.out.row HLN.out
      have hsrc := own_srcN (P := Try.prog) hox (longB_length i) Try.underlying24
      clear hox hkx hfx
      go_wp2_with (at_builtin; refine wpList_app 24 24 5 (.int .u8 0) 1 1 Try.underlying24 infoU8 rfl (by decide) (by decide) rfl rfl rfl rfl hrow hsrc (by omega) ?_)
      intro ao8 cp8 w8 hown8 hgr8 hfr8
      have ACC8 := Lib.hid (ACCX.out.app hown8 HLN.out.symm (longB_length i).symm rfl hgr8 hfr8)
      clear hown8 hgr8 hfr8
      go_wp2_with fail
      go_ret
      have he := HE.out
      rw [he]
      simp only [hasId, hasYes, hasParts, hasPuts]
      exact ⟨_, rfl, by simpa using ACC8.out.final KA.out⟩
    · go_wp2_with fail
      go_ret
      have he := HE.out
      rw [he]
      simp only [hasId, hasYes, hasParts, hasPuts]
      exact ⟨_, rfl, by simpa using ACC.out.final KA.out⟩
    · have hbig : us.length ≤ 100 := by omega
      go_wp2_with fail
      refine (refSmall_any (us.length : Int) _).mono ?_
      rintro e wx ⟨vx, rfl, hox, hkx, hfx⟩
      have ACCX := Lib.hid (ACC.out.still hkx)
      have hrow := ACCX.out.row HLN.out
      have hsrc := own_srcN (P := Try.prog) hox (smallB_length _) Try.underlying24
      clear hox hkx hfx
      go_wp2_with (at_builtin; refine wpList_app 24 24 5 (.int .u8 0) 1 1 Try.underlying24 infoU8 rfl (by decide) (by decide) rfl rfl rfl rfl hrow hsrc (by omega) ?_)
      intro ao8 cp8 w8 hown8 hgr8 hfr8
      have ACC8 := Lib.hid (ACCX.out.app hown8 HLN.out.symm (smallB_length _).symm rfl hgr8 hfr8)
      clear hown8 hgr8 hfr8 e0 e1 e2 e3 e4 e5 ACCX
      generalize Value.slice ao8 _ cp8 = v8 at ACC8 ⊢
      generalize hpre : (smallB 4 ++ longB t) ++ smallB (us.length : Int) = pre at ACC8
      have hpl : pre.length = 12 := by rw [← hpre, List.length_append, HLN.out, smallB_length]
      have HPRE := Lib.hid hpre; have HPL := Lib.hid hpl
      clear hpre hpl
      go_wp2_with fail
      go_loopw [3, 5] (fun lv iv wr => ∃ j : Nat, j ≤ us.length ∧ iv = .int .i64 j ∧ AccI W1 wr lv (pre ++ putsBytes (us.take j))) (fun _ iv _ => us.length - (intOf iv).toNat)
      case atStart => exact ⟨0, Nat.zero_le _, rfl, by simpa [putsBytes] using ACC8.out⟩
      case round =>
        obtain ⟨j, hj, rfl, hA⟩ := hrel
        have HA := Lib.hid hA
        clear hA
        obtain ⟨e0, e1, e2, e3, e4, e5⟩ := HC.out wr HA.out.keep
        clear e0 e1 e2 e3 e4
        by_cases hlt : j < us.length
        · have hj1 : (j : Int) < us.length := by omega
          obtain ⟨g, off, rfl, c0, c1⟩ := (HP.out W1 (Keep.refl NoF W1)).puts.2.2.2 j hlt
          simp only at c0 c1
          have hsn := putsBytes_snoc us j hlt
          have hcp := (H.out.puts).1
          have hcp2 := (H.out.puts).2.1
          unfold maxLen at hcp2
          obtain ⟨hq8, hb60⟩ := HSZ.out us[j] (List.getElem_mem hlt)
          obtain ⟨p, hp⟩ : ∃ p, us[j] = p := ⟨_, rfl⟩
          rw [hp] at c0 c1 hsn hq8 hb60
          have hl1 := textB_lenle p.q.data.toList 8 (by rw [ba_length]; exact hq8) (by omega)
          have hl2 := textB_lenle p.b.data.toList 60 (by rw [ba_length]; exact hb60) (by omega)
          have HSN := Lib.hid hsn
          have hll : (pre ++ putsBytes (us.take j)).length ≤ 12 + 72 * j := by
            have := putsBytes_len (us.take j) (fun q hq => HSZ.out q (List.mem_of_mem_take hq))
            rw [List.length_take] at this
            rw [List.length_append, HPL.out]; omega
          have HCC : Hid (∀ W, Keep NoF W1 W → W.cell? ⟨B, 5, none⟩ = some (.slice (some ⟨g, off, none⟩) us.length c5) ∧ W.cell? ⟨g, off + j * 2, none⟩ = some (.string p.q) ∧ W.cell? ⟨g, off + j * 2 + 1, none⟩ = some (.string p.b)) :=
            fun W hW => ⟨(HC.out W hW).2.2.2.2.2, hW.cell' c0 (fun f => f), hW.cell' c1 (fun f => f)⟩
          obtain ⟨n6, hn6⟩ : ∃ n, (pre ++ putsBytes (us.take j)).length = n := ⟨_, rfl⟩
          obtain ⟨m1, hm1⟩ : ∃ n, (textB p.q.data.toList).length = n := ⟨_, rfl⟩
          obtain ⟨m2, hm2⟩ : ∃ n, (textB p.b.data.toList).length = n := ⟨_, rfl⟩
          have hn7 : ((pre ++ putsBytes (us.take j)) ++ textB p.q.data.toList).length = n6 + m1 := by rw [List.length_append, hn6, hm1]
          rw [hn6] at hll
          rw [hm1] at hl1
          rw [hm2] at hl2
          have HL := Lib.hid (And.intro hll (And.intro hl1 hl2))
          have HN6 := Lib.hid hn6; have HM1 := Lib.hid hm1; have HM2 := Lib.hid hm2; have HN7 := Lib.hid hn7
          have HQ := Lib.hid (And.intro hq8 hb60)
          clear hp hsn hll hl1 hl2 hq8 hb60 e5 c0 c1 hn6 hm1 hm2 hn7
          obtain ⟨f0, f1, f2⟩ := HCC.out wr HA.out.keep
          go_wp2_with fail
          have KW := Lib.hid HA.out.keep
          go_region_held3 (fun W' : World => W'.cell? ⟨B, 5, none⟩ = some (.slice (some ⟨g, off, none⟩) us.length c5) ∧ W'.cell? ⟨g, off + j * 2, none⟩ = some (.string p.q) ∧ W'.cell? ⟨g, off + j * 2 + 1, none⟩ = some (.string p.b))
            (first | assumption | exact HCC.out _ ACC7.out.keep | exact HCC.out _ ACCD.out.keep | exact HCC.out _ ACC6.out.keep | exact HCC.out _ ACCA.out.keep | go_keep)
            (first
            | (go_at_call_of 67 p.q; refine (refText_any p.q _ (by have := HQ.out; omega)).mono ?_; rintro e wa ⟨v3, rfl, ho3, hk3, hf3⟩; have ACCA := Lib.hid (HA.out.still hk3.of_drew); have OWNA := Lib.hid ho3; clear ho3 hk3 hf3)
            | (go_at_call_of 67 p.b; refine (refText_any p.b _ (by have := HQ.out; omega)).mono ?_; rintro e wd ⟨v4, rfl, ho4, hk4, hf4⟩; have ACCD := Lib.hid (ACC6.out.still hk4); have OWND := Lib.hid ho4; clear ho4 hk4 hf4)
            | (refine step_app 24 24 5 (.int .u8 0) 1 1 Try.underlying24 infoU8 rfl (by decide) (by decide) rfl rfl rfl rfl (ACCD.out.row HN7.out) (own_srcN OWND.out HM2.out Try.underlying24) (by have := HL.out; omega) ?_; intro ao7 cp7 w7 hown7 hgr7 hfr7; have ACC7 := Lib.hid (ACCD.out.app hown7 HN7.out.symm HM2.out.symm rfl hgr7 hfr7); clear hown7 hgr7 hfr7)
            | (refine step_app 24 24 5 (.int .u8 0) 1 1 Try.underlying24 infoU8 rfl (by decide) (by decide) rfl rfl rfl rfl (ACCA.out.row HN6.out) (own_srcN OWNA.out HM1.out Try.underlying24) (by have := HL.out; omega) ?_; intro ao6 cp6 w6 hown6 hgr6 hfr6; have ACC6 := Lib.hid (ACCA.out.app hown6 HN6.out.symm HM1.out.symm rfl hgr6 hfr6); clear hown6 hgr6 hfr6))
          all_goals
            go_wp2_with fail
            go_roundw
            case rel =>
              refine ⟨j + 1, by omega, by go_num, ?_⟩
              rw [HSN.out]
              simpa [List.append_assoc] using ACC7.out
            case measure => simp [intOf]; omega
        · have hj1 : ¬ (j : Int) < us.length := by omega
          obtain rfl : j = us.length := by omega
          go_wp2_with fail
          go_ret
          have he := HE.out
          rw [he]
          simp only [hasId, hasYes, hasParts, hasPuts]
          have hA := HA.out.final KA.out
          rw [List.take_length, ← HPRE.out] at hA
          exact ⟨_, rfl, by simpa using hA⟩
    · go_wp2_with fail
      refine (refTruth_any y _).mono ?_
      rintro e wx ⟨vx, rfl, hox, hkx, hfx⟩
      have ACCX := Lib.hid (ACC.out.still hkx)
      have OWNX := Lib.hid hox
      have hrow := ACCX.out.row HLN.out
      have hsrc := own_srcN (P := Try.prog) hox (truthB_length y) Try.underlying24
      clear hox hkx hfx
      go_wp2_with (at_builtin; refine wpList_app 24 24 5 (.int .u8 0) 1 1 Try.underlying24 infoU8 rfl (by decide) (by decide) rfl rfl rfl rfl hrow hsrc (by omega) ?_)
      intro ao8 cp8 w8 hown8 hgr8 hfr8
      have ACC8 := Lib.hid (ACCX.out.app hown8 HLN.out.symm (truthB_length y).symm rfl hgr8 hfr8)
      clear hown8 hgr8 hfr8
      go_wp2_with fail
      go_ret
      have he := HE.out
      rw [he]
      simp only [hasId, hasYes, hasParts, hasPuts]
      exact ⟨_, rfl, by simpa using ACC8.out.final KA.out⟩
    · have hbig : ps.length ≤ 100 := by omega
      go_wp2_with fail
      refine (refSmall_any (ps.length : Int) _).mono ?_
      rintro e wx ⟨vx, rfl, hox, hkx, hfx⟩
      have ACCX := Lib.hid (ACC.out.still hkx)
      have hrow := ACCX.out.row HLN.out
      have hsrc := own_srcN (P := Try.prog) hox (smallB_length _) Try.underlying24
      clear hox hkx hfx
      go_wp2_with (at_builtin; refine wpList_app 24 24 5 (.int .u8 0) 1 1 Try.underlying24 infoU8 rfl (by decide) (by decide) rfl rfl rfl rfl hrow hsrc (by omega) ?_)
      intro ao8 cp8 w8 hown8 hgr8 hfr8
      have ACC8 := Lib.hid (ACCX.out.app hown8 HLN.out.symm (smallB_length _).symm rfl hgr8 hfr8)
      clear hown8 hgr8 hfr8 e0 e1 e2 e3 e4 e5 ACCX
      generalize Value.slice ao8 _ cp8 = v8 at ACC8 ⊢
      generalize hpre : (smallB 6 ++ longB t) ++ smallB (ps.length : Int) = pre at ACC8
      have hpl : pre.length = 12 := by rw [← hpre, List.length_append, HLN.out, smallB_length]
      have HPRE := Lib.hid hpre; have HPL := Lib.hid hpl
      clear hpre hpl
      go_wp2_with fail
      go_loopw [3, 4] (fun lv iv wr => ∃ j : Nat, j ≤ ps.length ∧ iv = .int .i64 j ∧ AccI W1 wr lv (pre ++ partsB (ps.take j))) (fun _ iv _ => ps.length - (intOf iv).toNat)
      case atStart => exact ⟨0, Nat.zero_le _, rfl, by simpa [partsB] using ACC8.out⟩
      case round =>
        obtain ⟨j, hj, rfl, hA⟩ := hrel
        have HA := Lib.hid hA
        clear hA
        obtain ⟨e0, e1, e2, e3, e4, e5⟩ := HC.out wr HA.out.keep
        clear e0 e1 e2 e3 e5
        by_cases hlt : j < ps.length
        · have hj1 : (j : Int) < ps.length := by omega
          obtain ⟨g, off, rfl, c0⟩ := (HP.out wr HA.out.keep).parts.2.2.2 j hlt
          simp only at c0
          have hsn := partsB_snoc ps j hlt
          have hcp := (H.out.parts).1
          have hcp2 := (H.out.parts).2.1
          unfold maxLen at hcp2
          obtain ⟨x, hx⟩ : ∃ x, ps[j] = x := ⟨_, rfl⟩
          rw [hx] at c0 hsn
          have HSN := Lib.hid hsn
          have hll : (pre ++ partsB (ps.take j)).length = 12 + 2 * j := by rw [List.length_append, HPL.out, partsB_len, List.length_take]; omega
          have HLL := Lib.hid hll
          clear hx hsn hll
          go_wp2_with fail
          refine (refSmall_any x _).mono ?_
          rintro e wy ⟨vy, rfl, hoy, hky, hfy⟩
          have ACCY := Lib.hid (HA.out.still hky)
          have hrow := ACCY.out.row HLL.out
          have hsrc := own_srcN (P := Try.prog) hoy (smallB_length _) Try.underlying24
          clear hoy hky hfy e4 c0
          go_wp2_with (at_builtin; refine wpList_app 24 24 5 (.int .u8 0) 1 1 Try.underlying24 infoU8 rfl (by decide) (by decide) rfl rfl rfl rfl hrow hsrc (by omega) ?_)
          intro ao7 cp7 w7 hown7 hgr7 hfr7
          have ACC7 := Lib.hid (ACCY.out.app hown7 HLL.out.symm (smallB_length _).symm rfl hgr7 hfr7)
          clear hown7 hgr7 hfr7
          go_wp2_with fail
          go_roundw
          case rel =>
            refine ⟨j + 1, by omega, by go_num, ?_⟩
            rw [HSN.out, ← List.append_assoc]
            exact ACC7.out
          case measure => simp [intOf]; omega
        · have hj1 : ¬ (j : Int) < ps.length := by omega
          obtain rfl : j = ps.length := by omega
          go_wp2_with fail
          go_ret
          have he := HE.out
          rw [he]
          simp only [hasId, hasYes, hasParts, hasPuts]
          have hA := HA.out.final KA.out
          rw [List.take_length, ← HPRE.out] at hA
          exact ⟨_, rfl, by simpa using hA⟩
    · have hbig : us.length ≤ 100 := by omega
      go_wp2_with fail
      refine (refSmall_any (us.length : Int) _).mono ?_
      rintro e wx ⟨vx, rfl, hox, hkx, hfx⟩
      have ACCX := Lib.hid (ACC.out.still hkx)
      have hrow := ACCX.out.row HLN.out
      have hsrc := own_srcN (P := Try.prog) hox (smallB_length _) Try.underlying24
      clear hox hkx hfx
      go_wp2_with (at_builtin; refine wpList_app 24 24 5 (.int .u8 0) 1 1 Try.underlying24 infoU8 rfl (by decide) (by decide) rfl rfl rfl rfl hrow hsrc (by omega) ?_)
      intro ao8 cp8 w8 hown8 hgr8 hfr8
      have ACC8 := Lib.hid (ACCX.out.app hown8 HLN.out.symm (smallB_length _).symm rfl hgr8 hfr8)
      clear hown8 hgr8 hfr8 e0 e1 e2 e3 e4 e5 ACCX
      generalize Value.slice ao8 _ cp8 = v8 at ACC8 ⊢
      generalize hpre : (smallB 7 ++ longB t) ++ smallB (us.length : Int) = pre at ACC8
      have hpl : pre.length = 12 := by rw [← hpre, List.length_append, HLN.out, smallB_length]
      have HPRE := Lib.hid hpre; have HPL := Lib.hid hpl
      clear hpre hpl
      go_wp2_with fail
      go_loopw [3, 5] (fun lv iv wr => ∃ j : Nat, j ≤ us.length ∧ iv = .int .i64 j ∧ AccI W1 wr lv (pre ++ putsBytes (us.take j))) (fun _ iv _ => us.length - (intOf iv).toNat)
      case atStart => exact ⟨0, Nat.zero_le _, rfl, by simpa [putsBytes] using ACC8.out⟩
      case round =>
        obtain ⟨j, hj, rfl, hA⟩ := hrel
        have HA := Lib.hid hA
        clear hA
        obtain ⟨e0, e1, e2, e3, e4, e5⟩ := HC.out wr HA.out.keep
        clear e0 e1 e2 e3 e4
        by_cases hlt : j < us.length
        · have hj1 : (j : Int) < us.length := by omega
          obtain ⟨g, off, rfl, c0, c1⟩ := (HP.out W1 (Keep.refl NoF W1)).puts.2.2.2 j hlt
          simp only at c0 c1
          have hsn := putsBytes_snoc us j hlt
          have hcp := (H.out.puts).1
          have hcp2 := (H.out.puts).2.1
          unfold maxLen at hcp2
          obtain ⟨hq8, hb60⟩ := HSZ.out us[j] (List.getElem_mem hlt)
          obtain ⟨p, hp⟩ : ∃ p, us[j] = p := ⟨_, rfl⟩
          rw [hp] at c0 c1 hsn hq8 hb60
          have hl1 := textB_lenle p.q.data.toList 8 (by rw [ba_length]; exact hq8) (by omega)
          have hl2 := textB_lenle p.b.data.toList 60 (by rw [ba_length]; exact hb60) (by omega)
          have HSN := Lib.hid hsn
          have hll : (pre ++ putsBytes (us.take j)).length ≤ 12 + 72 * j := by
            have := putsBytes_len (us.take j) (fun q hq => HSZ.out q (List.mem_of_mem_take hq))
            rw [List.length_take] at this
            rw [List.length_append, HPL.out]; omega
          have HCC : Hid (∀ W, Keep NoF W1 W → W.cell? ⟨B, 5, none⟩ = some (.slice (some ⟨g, off, none⟩) us.length c5) ∧ W.cell? ⟨g, off + j * 2, none⟩ = some (.string p.q) ∧ W.cell? ⟨g, off + j * 2 + 1, none⟩ = some (.string p.b)) :=
            fun W hW => ⟨(HC.out W hW).2.2.2.2.2, hW.cell' c0 (fun f => f), hW.cell' c1 (fun f => f)⟩
          obtain ⟨n6, hn6⟩ : ∃ n, (pre ++ putsBytes (us.take j)).length = n := ⟨_, rfl⟩
          obtain ⟨m1, hm1⟩ : ∃ n, (textB p.q.data.toList).length = n := ⟨_, rfl⟩
          obtain ⟨m2, hm2⟩ : ∃ n, (textB p.b.data.toList).length = n := ⟨_, rfl⟩
          have hn7 : ((pre ++ putsBytes (us.take j)) ++ textB p.q.data.toList).length = n6 + m1 := by rw [List.length_append, hn6, hm1]
          rw [hn6] at hll
          rw [hm1] at hl1
          rw [hm2] at hl2
          have HL := Lib.hid (And.intro hll (And.intro hl1 hl2))
          have HN6 := Lib.hid hn6; have HM1 := Lib.hid hm1; have HM2 := Lib.hid hm2; have HN7 := Lib.hid hn7
          have HQ := Lib.hid (And.intro hq8 hb60)
          clear hp hsn hll hl1 hl2 hq8 hb60 e5 c0 c1 hn6 hm1 hm2 hn7
          obtain ⟨f0, f1, f2⟩ := HCC.out wr HA.out.keep
          go_wp2_with fail
          have KW := Lib.hid HA.out.keep
          go_region_held3 (fun W' : World => W'.cell? ⟨B, 5, none⟩ = some (.slice (some ⟨g, off, none⟩) us.length c5) ∧ W'.cell? ⟨g, off + j * 2, none⟩ = some (.string p.q) ∧ W'.cell? ⟨g, off + j * 2 + 1, none⟩ = some (.string p.b))
            (first | assumption | exact HCC.out _ ACC7.out.keep | exact HCC.out _ ACCD.out.keep | exact HCC.out _ ACC6.out.keep | exact HCC.out _ ACCA.out.keep | go_keep)
            (first
            | (go_at_call_of 67 p.q; refine (refText_any p.q _ (by have := HQ.out; omega)).mono ?_; rintro e wa ⟨v3, rfl, ho3, hk3, hf3⟩; have ACCA := Lib.hid (HA.out.still hk3.of_drew); have OWNA := Lib.hid ho3; clear ho3 hk3 hf3)
            | (go_at_call_of 67 p.b; refine (refText_any p.b _ (by have := HQ.out; omega)).mono ?_; rintro e wd ⟨v4, rfl, ho4, hk4, hf4⟩; have ACCD := Lib.hid (ACC6.out.still hk4); have OWND := Lib.hid ho4; clear ho4 hk4 hf4)
            | (refine step_app 24 24 5 (.int .u8 0) 1 1 Try.underlying24 infoU8 rfl (by decide) (by decide) rfl rfl rfl rfl (ACCD.out.row HN7.out) (own_srcN OWND.out HM2.out Try.underlying24) (by have := HL.out; omega) ?_; intro ao7 cp7 w7 hown7 hgr7 hfr7; have ACC7 := Lib.hid (ACCD.out.app hown7 HN7.out.symm HM2.out.symm rfl hgr7 hfr7); clear hown7 hgr7 hfr7)
            | (refine step_app 24 24 5 (.int .u8 0) 1 1 Try.underlying24 infoU8 rfl (by decide) (by decide) rfl rfl rfl rfl (ACCA.out.row HN6.out) (own_srcN OWNA.out HM1.out Try.underlying24) (by have := HL.out; omega) ?_; intro ao6 cp6 w6 hown6 hgr6 hfr6; have ACC6 := Lib.hid (ACCA.out.app hown6 HN6.out.symm HM1.out.symm rfl hgr6 hfr6); clear hown6 hgr6 hfr6))
          all_goals
            go_wp2_with fail
            go_roundw
            case rel =>
              refine ⟨j + 1, by omega, by go_num, ?_⟩
              rw [HSN.out]
              simpa [List.append_assoc] using ACC7.out
            case measure => simp [intOf]; omega
        · have hj1 : ¬ (j : Int) < us.length := by omega
          obtain rfl : j = us.length := by omega
          go_wp2_with fail
          go_ret
          have he := HE.out
          rw [he]
          simp only [hasId, hasYes, hasParts, hasPuts]
          have hA := HA.out.final KA.out
          rw [List.take_length, ← HPRE.out] at hA
          exact ⟨_, rfl, by simpa using hA⟩
    · have hbig : ps.length ≤ 100 := by omega
      go_wp2_with fail
      refine (refSmall_any (ps.length : Int) _).mono ?_
      rintro e wx ⟨vx, rfl, hox, hkx, hfx⟩
      have ACCX := Lib.hid (ACC.out.still hkx)
      have hrow := ACCX.out.row HLN.out
      have hsrc := own_srcN (P := Try.prog) hox (smallB_length _) Try.underlying24
      clear hox hkx hfx
      go_wp2_with (at_builtin; refine wpList_app 24 24 5 (.int .u8 0) 1 1 Try.underlying24 infoU8 rfl (by decide) (by decide) rfl rfl rfl rfl hrow hsrc (by omega) ?_)
      intro ao8 cp8 w8 hown8 hgr8 hfr8
      have ACC8 := Lib.hid (ACCX.out.app hown8 HLN.out.symm (smallB_length _).symm rfl hgr8 hfr8)
      clear hown8 hgr8 hfr8 e0 e1 e2 e3 e4 e5 ACCX
      generalize Value.slice ao8 _ cp8 = v8 at ACC8 ⊢
      generalize hpre : (smallB 8 ++ longB t) ++ smallB (ps.length : Int) = pre at ACC8
      have hpl : pre.length = 12 := by rw [← hpre, List.length_append, HLN.out, smallB_length]
      have HPRE := Lib.hid hpre; have HPL := Lib.hid hpl
      clear hpre hpl
      go_wp2_with fail
      go_loopw [3, 4] (fun lv iv wr => ∃ j : Nat, j ≤ ps.length ∧ iv = .int .i64 j ∧ AccI W1 wr lv (pre ++ partsB (ps.take j))) (fun _ iv _ => ps.length - (intOf iv).toNat)
      case atStart => exact ⟨0, Nat.zero_le _, rfl, by simpa [partsB] using ACC8.out⟩
      case round =>
        obtain ⟨j, hj, rfl, hA⟩ := hrel
        have HA := Lib.hid hA
        clear hA
        obtain ⟨e0, e1, e2, e3, e4, e5⟩ := HC.out wr HA.out.keep
        clear e0 e1 e2 e3 e5
        by_cases hlt : j < ps.length
        · have hj1 : (j : Int) < ps.length := by omega
          obtain ⟨g, off, rfl, c0⟩ := (HP.out wr HA.out.keep).parts.2.2.2 j hlt
          simp only at c0
          have hsn := partsB_snoc ps j hlt
          have hcp := (H.out.parts).1
          have hcp2 := (H.out.parts).2.1
          unfold maxLen at hcp2
          obtain ⟨x, hx⟩ : ∃ x, ps[j] = x := ⟨_, rfl⟩
          rw [hx] at c0 hsn
          have HSN := Lib.hid hsn
          have hll : (pre ++ partsB (ps.take j)).length = 12 + 2 * j := by rw [List.length_append, HPL.out, partsB_len, List.length_take]; omega
          have HLL := Lib.hid hll
          clear hx hsn hll
          go_wp2_with fail
          refine (refSmall_any x _).mono ?_
          rintro e wy ⟨vy, rfl, hoy, hky, hfy⟩
          have ACCY := Lib.hid (HA.out.still hky)
          have hrow := ACCY.out.row HLL.out
          have hsrc := own_srcN (P := Try.prog) hoy (smallB_length _) Try.underlying24
          clear hoy hky hfy e4 c0
          go_wp2_with (at_builtin; refine wpList_app 24 24 5 (.int .u8 0) 1 1 Try.underlying24 infoU8 rfl (by decide) (by decide) rfl rfl rfl rfl hrow hsrc (by omega) ?_)
          intro ao7 cp7 w7 hown7 hgr7 hfr7
          have ACC7 := Lib.hid (ACCY.out.app hown7 HLL.out.symm (smallB_length _).symm rfl hgr7 hfr7)
          clear hown7 hgr7 hfr7
          go_wp2_with fail
          go_roundw
          case rel =>
            refine ⟨j + 1, by omega, by go_num, ?_⟩
            rw [HSN.out, ← List.append_assoc]
            exact ACC7.out
          case measure => simp [intOf]; omega
        · have hj1 : ¬ (j : Int) < ps.length := by omega
          obtain rfl : j = ps.length := by omega
          go_wp2_with fail
          go_ret
          have he := HE.out
          rw [he]
          simp only [hasId, hasYes, hasParts, hasPuts]
          have hA := HA.out.final KA.out
          rw [List.take_length, ← HPRE.out] at hA
          exact ⟨_, rfl, by simpa using hA⟩
    · have hbig : ps.length ≤ 100 := by omega
      go_wp2_with fail
      refine (refSmall_any (ps.length : Int) _).mono ?_
      rintro e wx ⟨vx, rfl, hox, hkx, hfx⟩
      have ACCX := Lib.hid (ACC.out.still hkx)
      have hrow := ACCX.out.row HLN.out
      have hsrc := own_srcN (P := Try.prog) hox (smallB_length _) Try.underlying24
      clear hox hkx hfx
      go_wp2_with (at_builtin; refine wpList_app 24 24 5 (.int .u8 0) 1 1 Try.underlying24 infoU8 rfl (by decide) (by decide) rfl rfl rfl rfl hrow hsrc (by omega) ?_)
      intro ao8 cp8 w8 hown8 hgr8 hfr8
      have ACC8 := Lib.hid (ACCX.out.app hown8 HLN.out.symm (smallB_length _).symm rfl hgr8 hfr8)
      clear hown8 hgr8 hfr8 e0 e1 e2 e3 e4 e5 ACCX
      generalize Value.slice ao8 _ cp8 = v8 at ACC8 ⊢
      generalize hpre : (smallB 9 ++ longB t) ++ smallB (ps.length : Int) = pre at ACC8
      have hpl : pre.length = 12 := by rw [← hpre, List.length_append, HLN.out, smallB_length]
      have HPRE := Lib.hid hpre; have HPL := Lib.hid hpl
      clear hpre hpl
      go_wp2_with fail
      go_loopw [3, 4] (fun lv iv wr => ∃ j : Nat, j ≤ ps.length ∧ iv = .int .i64 j ∧ AccI W1 wr lv (pre ++ partsB (ps.take j))) (fun _ iv _ => ps.length - (intOf iv).toNat)
      case atStart => exact ⟨0, Nat.zero_le _, rfl, by simpa [partsB] using ACC8.out⟩
      case round =>
        obtain ⟨j, hj, rfl, hA⟩ := hrel
        have HA := Lib.hid hA
        clear hA
        obtain ⟨e0, e1, e2, e3, e4, e5⟩ := HC.out wr HA.out.keep
        clear e0 e1 e2 e3 e5
        by_cases hlt : j < ps.length
        · have hj1 : (j : Int) < ps.length := by omega
          obtain ⟨g, off, rfl, c0⟩ := (HP.out wr HA.out.keep).parts.2.2.2 j hlt
          simp only at c0
          have hsn := partsB_snoc ps j hlt
          have hcp := (H.out.parts).1
          have hcp2 := (H.out.parts).2.1
          unfold maxLen at hcp2
          obtain ⟨x, hx⟩ : ∃ x, ps[j] = x := ⟨_, rfl⟩
          rw [hx] at c0 hsn
          have HSN := Lib.hid hsn
          have hll : (pre ++ partsB (ps.take j)).length = 12 + 2 * j := by rw [List.length_append, HPL.out, partsB_len, List.length_take]; omega
          have HLL := Lib.hid hll
          clear hx hsn hll
          go_wp2_with fail
          refine (refSmall_any x _).mono ?_
          rintro e wy ⟨vy, rfl, hoy, hky, hfy⟩
          have ACCY := Lib.hid (HA.out.still hky)
          have hrow := ACCY.out.row HLL.out
          have hsrc := own_srcN (P := Try.prog) hoy (smallB_length _) Try.underlying24
          clear hoy hky hfy e4 c0
          go_wp2_with (at_builtin; refine wpList_app 24 24 5 (.int .u8 0) 1 1 Try.underlying24 infoU8 rfl (by decide) (by decide) rfl rfl rfl rfl hrow hsrc (by omega) ?_)
          intro ao7 cp7 w7 hown7 hgr7 hfr7
          have ACC7 := Lib.hid (ACCY.out.app hown7 HLL.out.symm (smallB_length _).symm rfl hgr7 hfr7)
          clear hown7 hgr7 hfr7
          go_wp2_with fail
          go_roundw
          case rel =>
            refine ⟨j + 1, by omega, by go_num, ?_⟩
            rw [HSN.out, ← List.append_assoc]
            exact ACC7.out
          case measure => simp [intOf]; omega
        · have hj1 : ¬ (j : Int) < ps.length := by omega
          obtain rfl : j = ps.length := by omega
          go_wp2_with fail
          go_ret
          have he := HE.out
          rw [he]
          simp only [hasId, hasYes, hasParts, hasPuts]
          have hA := HA.out.final KA.out
          rw [List.take_length, ← HPRE.out] at hA
          exact ⟨_, rfl, by simpa using hA⟩
end Go.Proofs.Ytgbogbjifpijkaa
