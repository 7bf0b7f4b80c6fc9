/- The law's own helper over bytes: tells: it returns true of any bytes. -/
import Derived.Test.YtgbogbjifpijkaaLaw8b
import Derived.Test.YtgbogbjifpijkaaBytes8
import Derived.Test.YtgbogbjifpijkaaRecPlain2
open Go Go.RowKit
namespace Go.Proofs.Ytgbogbjifpijkaa

theorem decode_t (ao : Option Addr) (cp : Nat) (l : List UInt8) (n : Nat) (hn : l.length = n) (k t i : Int) (y : Bool) (ps : List Int) (us : List PutV) (hv : decV l = ⟨k, t, i, y, ps, us⟩) (hok : decOk l = true)
    (w : World) (h : SlB w ao cp l) (hb : ∀ g, blockOf ao = some g → g < w.heap.size) :
    Calls Try.prog 38 #[.slice ao n cp] w fun e w' => ∃ a4 c4 a5 c5, e = .returned (.tuple #[.agg #[.int .i64 k, .int .i64 t, .int .i64 i, .bool y, .slice a4 ps.length c4, .slice a5 us.length c5], .int .i64 0]) ∧
      RecAt w' ⟨k, t, i, y, ps, us⟩ a4 c4 a5 c5 ∧ Keep NoF w w' ∧ (∀ j, blockOf a4 = some j → w.heap.size ≤ j) ∧ ∀ j, blockOf a5 = some j → w.heap.size ≤ j := by
  subst hn
  refine (decode_any ao cp l w h hb).mono ?_
  rintro e w' ⟨a4, c4, a5, c5, rfl, hr, hk, h4, h5⟩
  rw [hok] at hr ⊢
  simp only [if_true, hv] at hr ⊢
  exact ⟨a4, c4, a5, c5, rfl, hr, hk, h4, h5⟩
theorem decode_f (ao : Option Addr) (cp : Nat) (l : List UInt8) (n : Nat) (hn : l.length = n) (hok : decOk l = false) (w : World) (h : SlB w ao cp l) (hb : ∀ g, blockOf ao = some g → g < w.heap.size) :
    Calls Try.prog 38 #[.slice ao n cp] w fun e w' => ∃ a4 c4 a5 c5, e = .returned (.tuple #[.agg #[.int .i64 0, .int .i64 0, .int .i64 0, .bool false, .slice a4 0 c4, .slice a5 0 c5], .int .i64 1]) ∧
      RecAt w' ⟨0, 0, 0, false, [], []⟩ a4 c4 a5 c5 ∧ Keep NoF w w' ∧ (∀ j, blockOf a4 = some j → w.heap.size ≤ j) ∧ ∀ j, blockOf a5 = some j → w.heap.size ≤ j := by
  subst hn
  refine (decode_any ao cp l w h hb).mono ?_
  rintro e w' ⟨a4, c4, a5, c5, rfl, hr, hk, h4, h5⟩
  rw [hok] at hr ⊢
  exact ⟨a4, c4, a5, c5, rfl, hr, hk, h4, h5⟩
theorem rbytes_op (k t i : Int) (y : Bool) (ps : List Int) (us : List PutV) (a4 : Option Addr) (c4 : Nat) (a5 : Option Addr) (c5 : Nat) (l : List UInt8) (hl : encB ⟨k, t, i, y, ps, us⟩ = l) (n : Nat) (hn : l.length = n) (hok : recB ⟨k, t, i, y, ps, us⟩ = true) (w : World)
    (h : RecAt w ⟨k, t, i, y, ps, us⟩ a4 c4 a5 c5) :
    Calls Try.prog 39 #[.agg #[.int .i64 k, .int .i64 t, .int .i64 i, .bool y, .slice a4 ps.length c4, .slice a5 us.length c5]] w fun e w' => ∃ ao cp, e = .returned (.slice ao n cp) ∧ SlB w' ao cp l ∧ Keep NoF w w' := by
  subst hl hn
  refine (rbytes_any ⟨k, t, i, y, ps, us⟩ a4 c4 a5 c5 w h hok).mono ?_
  rintro e w' ⟨v, rfl, ho, hk, _⟩
  obtain ⟨ao, cp, rfl, sl, _⟩ := ho.slb
  exact ⟨ao, cp, rfl, sl, hk⟩
theorem conv_slb {w : World} {ao : Option Addr} {cp : Nat} {l : List UInt8} {n : Nat} (h : SlB w ao cp l) (hn : l.length = n) :
    (convert 24 9 (.slice ao n cp)).run Try.prog w = .ok (.string (bstr l)) w := by
  subst hn
  exact run_convert_SlB h Try.underlying24 Try.underlying5 Try.underlying9
theorem req_op (k t i : Int) (y : Bool) (ps : List Int) (us : List PutV) (k' t' i' : Int) (y' : Bool) (ps' : List Int) (us' : List PutV) (a4 : Option Addr) (c4 : Nat) (a5 : Option Addr) (c5 : Nat) (b4 : Option Addr) (d4 : Nat) (b5 : Option Addr) (d5 : Nat)
    (b : Bool) (hb : eqRec ⟨k, t, i, y, ps, us⟩ ⟨k', t', i', y', ps', us'⟩ = b) (w : World) (h : RecAt w ⟨k, t, i, y, ps, us⟩ a4 c4 a5 c5) (g : RecAt w ⟨k', t', i', y', ps', us'⟩ b4 d4 b5 d5) :
    Calls Try.prog 36 #[.agg #[.int .i64 k, .int .i64 t, .int .i64 i, .bool y, .slice a4 ps.length c4, .slice a5 us.length c5], .agg #[.int .i64 k', .int .i64 t', .int .i64 i', .bool y', .slice b4 ps'.length d4, .slice b5 us'.length d5]] w
      fun e w' => e = .returned (.bool b) ∧ Keep NoF w w' := by
  subst hb
  exact req_any ⟨k, t, i, y, ps, us⟩ ⟨k', t', i', y', ps', us'⟩ a4 c4 a5 c5 b4 d4 b5 d5 w h g
theorem keq_op (k t i : Int) (y : Bool) (ps : List Int) (us : List PutV) (k' t' i' : Int) (y' : Bool) (ps' : List Int) (us' : List PutV) (a4 : Option Addr) (c4 : Nat) (a5 : Option Addr) (c5 : Nat) (b4 : Option Addr) (d4 : Nat) (b5 : Option Addr) (d5 : Nat)
    (b : Bool) (hb : eqRec ⟨k, t, i, y, ps, us⟩ ⟨k', t', i', y', ps', us'⟩ = b) (w : World) (h : RecAt w ⟨k, t, i, y, ps, us⟩ a4 c4 a5 c5) (g : RecAt w ⟨k', t', i', y', ps', us'⟩ b4 d4 b5 d5) :
    Calls Try.prog 37 #[.agg #[.int .i64 k, .int .i64 t, .int .i64 i, .bool y, .slice a4 ps.length c4, .slice a5 us.length c5], .agg #[.int .i64 k', .int .i64 t', .int .i64 i', .bool y', .slice b4 ps'.length d4, .slice b5 us'.length d5]] w
      fun e w' => e = .returned (.bool b) ∧ Keep NoF w w' := by
  subst hb
  exact keq_any ⟨k, t, i, y, ps, us⟩ ⟨k', t', i', y', ps', us'⟩ a4 c4 a5 c5 b4 d4 b5 d5 w h g

set_option maxHeartbeats 4000000 in
theorem tells_any (ao : Option Addr) (cp : Nat) (l : List UInt8) (n : Nat) (hn : l.length = n) (w : World) (h : SlB w ao cp l) (hb : ∀ g, blockOf ao = some g → g < w.heap.size) :
    Calls Try.prog 41 #[.slice ao n cp] w fun e w' => e = .returned (.bool true) ∧ Keep NoF w w' := by
  have H := Lib.hid h; have HB := Lib.hid hb; have HN := Lib.hid hn
  clear h hb hn
  rcases hok : decOk l with _ | _
  · have HD := Lib.hid (fun W h g => decode_f ao cp l n HN.out hok W h g)
    clear hok
    go_enter Try.func41, Try.ntmps41
    go_wp2_with fail
    refine (HD.out w H.out HB.out).mono ?_
    rintro e w1 ⟨a4, c4, a5, c5, rfl, hr, hk, _, _⟩
    have K1 := Lib.hid hk; have HR := Lib.hid hr
    clear hk hr
    go_wp2_with fail
    have h0 := heap_new w1 (.cells (recCells 0 0 0 false (.slice a4 0 c4) (.slice a5 0 c5)) 38 (0, 0))
    refine (req_op 0 0 0 false [] [] 0 0 0 false [] [] a4 c4 a5 c5 none 0 none 0 true (by decide) _ (HR.out.keep (keep_alloc _ _)) ⟨zero_in, zero_in, zero_in, SlI.nil _, SlP.nil _⟩).mono ?_
    rintro e w2 ⟨rfl, hk2⟩
    have K2 := Lib.hid hk2
    clear hk2 h0
    go_wp2_with fail
    go_ret
    exact ⟨rfl, (K1.out.trans' (keep_alloc w1 _)).trans' K2.out⟩
  · obtain ⟨hrb, henc⟩ := enc_dec hok
    obtain ⟨r, hr⟩ : ∃ r, decV l = r := ⟨_, rfl⟩
    obtain ⟨k, t, i, y, ps, us⟩ := r
    rw [hr] at hrb henc
    have HD := Lib.hid (fun W h g => decode_t ao cp l n HN.out k t i y ps us hr hok W h g)
    have HE := Lib.hid henc; have HRB := Lib.hid hrb
    clear hok hr hrb henc
    go_enter Try.func41, Try.ntmps41
    go_wp2_with fail
    refine (HD.out w H.out HB.out).mono ?_
    rintro e w1 ⟨a4, c4, a5, c5, rfl, hr, hk, _, _⟩
    have h0 := heap_new w1 (.cells (recCells k t i y (.slice a4 ps.length c4) (.slice a5 us.length c5)) 38 (0, 0))
    have hk1 := hk.alloc (.cells (recCells k t i y (.slice a4 ps.length c4) (.slice a5 us.length c5)) 38 (0, 0))
    have hr1 := hr.keep (keep_alloc w1 (.cells (recCells k t i y (.slice a4 ps.length c4) (.slice a5 us.length c5)) 38 (0, 0)))
    obtain ⟨B, hB⟩ : ∃ B, w1.heap.size = B := ⟨_, rfl⟩
    have HBQ := Lib.hid hB
    clear hk hr hB
    go_upto_region 4 with fail
    rw [HBQ.out]
    rw [HBQ.out] at h0
    show Code.wp _ _ _ _ (w1.alloc (.cells (recCells k t i y (.slice a4 ps.length c4) (.slice a5 us.length c5)) 38 (0, 0)))
    generalize w1.alloc (.cells (recCells k t i y (.slice a4 ps.length c4) (.slice a5 us.length c5)) 38 (0, 0)) = W1 at h0 hk1 hr1 ⊢
    have hc : ∀ W, Keep NoF W1 W → RecC W B k t i y (.slice a4 ps.length c4) (.slice a5 us.length c5) := fun W hW => rec_cells (row_keep h0 hW)
    unfold RecC at hc
    have HC := Lib.hid hc; have HR := Lib.hid hr1; have K1 := Lib.hid hk1
    clear h0 hk1 hr1 hc
    obtain ⟨c0, c1, c2, c3, c4', c5'⟩ := HC.out W1.drew (Keep.refl NoF W1).drew
    have hcv1 := fun W hW => conv_slb (H.out.keep (K1.out.trans' hW : Keep NoF w W) (fun _ _ f => f)) HN.out
    have HCV := Lib.hid hcv1
    clear hcv1
    go_region_law (first
      | (go_simp; go_at_call 32; refine (rrecord_op k t i y ps us a4 c4 a5 c5 true HRB.out _ (HR.out.keep (Keep.refl NoF W1).drew)).mono ?_; rintro e wa ⟨rfl, hka⟩; have KA := Lib.hid (hka.of_drew : Keep NoF W1 wa); obtain ⟨e0, e1, e2, e3, e4, e5⟩ := HC.out wa KA.out; have hva := HCV.out wa KA.out; clear hka)
      | (go_simp; go_at_call 39; refine (rbytes_op k t i y ps us a4 c4 a5 c5 l HE.out n HN.out HRB.out _ (HR.out.keep KA.out)).mono ?_; rintro e wb ⟨av, cv, rfl, slv, hkb⟩; have KBB := Lib.hid (KA.out.trans' hkb); have hvb := HCV.out wb KBB.out; have hvc := conv_slb slv HN.out; clear hkb slv))
    all_goals
      go_wp2_with fail
      go_ret
      exact ⟨rfl, K1.out.trans' KBB.out⟩
theorem own_plain {w : World} {a : Addr} {n cp : Nat} {xs : List Value} {e : TypeId} {m : Nat} (h : w.ownsRow 0 e m (.slice (some a) n cp) n xs) : a = ⟨a.block, 0, none⟩ := by
  rcases h.2 with ⟨h', _⟩ | ⟨g, cap, cur, h', _⟩
  · simp at h'
  · simp only [Value.slice.injEq, Option.some.injEq, true_and] at h'
    rw [h'.1]
theorem encode_g (k t i : Int) (y : Bool) (ps : List Int) (us : List PutV) (a4 : Option Addr) (c4 : Nat) (a5 : Option Addr) (c5 : Nat) (hb : recB ⟨k, t, i, y, ps, us⟩ = true) (n : Nat) (hn : (encB ⟨k, t, i, y, ps, us⟩).length = n) (w : World) (h : RecAt w ⟨k, t, i, y, ps, us⟩ a4 c4 a5 c5) :
    Calls Try.prog 35 #[.agg #[.int .i64 k, .int .i64 t, .int .i64 i, .bool y, .slice a4 ps.length c4, .slice a5 us.length c5]] w fun e w' =>
      ∃ g cp, e = .returned (.slice (some ⟨g, 0, none⟩) n cp) ∧ w'.ownsRow 0 5 1 (.slice (some ⟨g, 0, none⟩) n cp) n (bvs (encB ⟨k, t, i, y, ps, us⟩)) ∧ SlB w' (some ⟨g, 0, none⟩) cp (encB ⟨k, t, i, y, ps, us⟩) ∧ Keep NoF w w' ∧ w.heap.size ≤ g ∧ g < w'.heap.size := by
  refine (encode_t k t i y ps us a4 c4 a5 c5 hb n hn w h).mono ?_
  rintro e w' ⟨a, cp, rfl, ho, hk, hf⟩
  subst hn
  have hp := own_plain ho
  obtain ⟨ao, cq, e1, sl, bk⟩ := ho.slb
  injection e1 with e1 _ e2
  subst e2
  rw [← e1] at sl
  have hl := ho.lt a.block rfl
  rw [hp] at sl ho ⊢
  exact ⟨a.block, cp, rfl, ho, sl, hk, hf, hl⟩
theorem enc_small (r : RecV) (h : recB r = true) : (encB r).length ≤ 1000 := by
  obtain ⟨_, _, _, _, hr, hp, hpp⟩ := (recB_iff r).1 h
  obtain ⟨k, t, i, y, ps, us⟩ := r
  simp only at hr hp hpp
  have hr1 := (rising_mem hr).1
  have hm : mostOf k ≤ 7 := by unfold mostOf; split <;> (try split) <;> omega
  have hpo : putsOf k ≤ 10 := by unfold putsOf; split <;> omega
  have h1 := partsB_len ps
  have h2 := putsBytes_len us (fun p hp => putB_sizes (puts_mem hpp p hp))
  rw [enc_head]
  have e1 : (if hasId k then longB i else []).length ≤ 8 := by split <;> simp [longB_length]
  have e2 : (if hasYes k then truthB y else []).length ≤ 1 := by split <;> simp [truthB, leBytes_length]
  have e3 : (if hasParts k then smallB ps.length ++ partsB ps else []).length ≤ 2 + 2 * ps.length := by split <;> simp [smallB_length, h1]
  have e4 : (if hasPuts k then smallB us.length ++ putsBytes us else []).length ≤ 2 + 72 * us.length := by
    split
    · rw [List.length_append, smallB_length]; omega
    · simp
  simp only [List.length_append, smallB_length, longB_length] at *
  omega
end Go.Proofs.Ytgbogbjifpijkaa
