/- A net's Twice; no net. -/
import Derived.Test.YtlabhbjampkhpaaGreatNet3
open Go Go.RowKit Go.Maps Go.Sort Go.Shelf
namespace Go.Proofs.YtlabhbjampkhpaaGreat
def TwicePost (w : World) (F : Nat → Prop) (nb : Nat) (ps : List PackV) (i : Int) (e : Ending) (w' : World) : Prop :=
  e = .returned (.bool (twiceB ps i)) ∧ NetW w' (Wid F w w') nb (twiceP ps i) ∧ Keep F w w'
set_option maxHeartbeats 2000000 in
set_option maxRecDepth 8000 in
theorem twice_no (q : Option Addr) (i : Int) (w : World) (hL : ∀ W, Keep NoF w W → Calls Tryz.prog 24 #[.pointer q, .int .i64 i] W fun e w' => e = .returned (.tuple #[packVal PackV.zero, .bool false]) ∧ Keep NoF W w') :
    Calls Tryz.prog 23 #[.pointer q, .int .i64 i] w fun e w' => e = .returned (.bool false) ∧ Keep NoF w w' := by
  have HLK : Hid (∀ W, Keep NoF w W → Calls Tryz.prog 24 #[.pointer q, .int .i64 i] W fun e w' => e = .returned (.tuple #[.agg #[.int .i64 0, .int .i64 0, .int .i64 0, .int .i64 0, .int .i64 0, .bool false], .bool false]) ∧ Keep NoF W w') := Lib.hid hL
  clear hL
  go_enter Tryz.func23, Tryz.ntmps23
  go_wp2_with fail
  refine (HLK.out w (Keep.refl _ _)).mono ?_
  rintro e w1 ⟨rfl, hk⟩
  have HK := Lib.hid hk
  clear hk
  go_wp2_with fail
  go_ret
  exact ⟨rfl, HK.out.alloc _⟩
set_option maxHeartbeats 2000000 in
set_option maxRecDepth 8000 in
theorem twice_in (F : Nat → Prop) (nb : Nat) (ps : List PackV) (i : Int) (w : World) (h : NetW w F nb ps) (hi : -9223372036854775808 ≤ i ∧ i ≤ 9223372036854775807) (hin : inP ps i = true) :
    Calls Tryz.prog 23 #[.pointer (some ⟨nb, 0, none⟩), .int .i64 i] w (TwicePost w F nb ps i) := by
  obtain ⟨hlt, hat, hlk, hi0⟩ := atP_in hin
  have hgp := h.good.1 _ (List.getElem_mem hlt)
  have HLK : Hid (∀ W, NetW W F nb ps → Calls Tryz.prog 24 #[.pointer (some ⟨nb, 0, none⟩), .int .i64 i] W fun e w' => e = .returned (.tuple #[packVal ps[i.toNat], .bool true]) ∧ Keep NoF W w') := Lib.hid fun W hW => by
    have h1 := look_any F nb ps i W hW hi
    unfold LookPost at h1
    rw [hlk, hin] at h1
    exact h1
  have HSN : Hid (∀ W, NetW W F nb ps → Calls Tryz.prog 21 #[.pointer (some ⟨nb, 0, none⟩), packVal ps[i.toNat]] W (SendPost W F nb ps[i.toNat] ps)) := Lib.hid fun W hW => send_any F nb _ ps W hW hgp.1
  have hq : twiceB ps i = sentB ps[i.toNat] ps := by unfold twiceB sentB; rw [hin, hgp.2]
  have hq2 : twiceP ps i = sendP ps[i.toNat] ps := by unfold twiceP sendP; rw [hq, hlk]
  have HQ := Lib.hid hq; have HQ2 := Lib.hid hq2; have H := Lib.hid h
  have HLT : Hid (∀ k, F k → k < w.heap.size) := by obtain ⟨b, v, l, h⟩ := h; exact Lib.hid h.lt
  generalize ps[i.toNat] = p at HLK HSN HQ HQ2
  clear h hi hin hlt hat hlk hi0 hgp hq hq2
  obtain ⟨xk, xf, xt, xd, xn, xy⟩ := p
  unfold packVal at HLK HSN
  simp only at HLK HSN
  go_enter Tryz.func23, Tryz.ntmps23
  go_wp2_with fail
  refine (HLK.out w H.out).mono ?_
  rintro e w1 ⟨rfl, hk⟩
  have HK := Lib.hid hk
  clear hk
  go_wp2_with fail
  refine (HSN.out _ (H.out.keep (HK.out.alloc _) (fun _ _ f => f))).mono ?_
  rintro e w3 ⟨rfl, hn, hk3⟩
  have HN := Lib.hid hn; have HK3 := Lib.hid hk3
  clear hn hk3
  obtain ⟨r, hr⟩ : ∃ r, sentB (⟨xk, xf, xt, xd, xn, xy⟩ : PackV) ps = r := ⟨_, rfl⟩
  rw [hr] at HQ ⊢
  clear hr
  go_wp2_with fail
  go_ret
  have s1 := (HK.out.alloc (.cells #[.int .i64 xk, .int .i64 xf, .int .i64 xt, .int .i64 xd, .int .i64 xn, .bool xy] 23 (0, 0))).size
  have s2 := HK3.out.size
  exact ⟨by rw [HQ.out]; rfl, by rw [HQ2.out]; exact wid_step HN.out s1 (Nat.le_refl _) HLT.out (Keep.refl NoF w3) (fun _ _ f => f) (Nat.le_trans s1 s2), (HK.out.alloc _).trans HK3.out (fun _ _ f => f.elim) (fun _ _ f => f)⟩
theorem twice_any (F : Nat → Prop) (nb : Nat) (ps : List PackV) (i : Int) (w : World) (h : NetW w F nb ps) (hi : -9223372036854775808 ≤ i ∧ i ≤ 9223372036854775807) :
    Calls Tryz.prog 23 #[.pointer (some ⟨nb, 0, none⟩), .int .i64 i] w (TwicePost w F nb ps i) := by
  cases hin : inP ps i with
  | false =>
    refine (twice_no (some ⟨nb, 0, none⟩) i w fun W hW => ?_).mono ?_
    · have h1 := look_any F nb ps i W (h.keep hW (fun _ _ f => f)) hi
      unfold LookPost at h1
      rw [(atP_out hin).2, hin] at h1
      exact h1
    · rintro e w' ⟨rfl, hk⟩
      unfold TwicePost twiceP twiceB
      rw [hin]
      exact ⟨rfl, (h.keep hk (fun _ _ f => f)).wid, hk.mono (fun _ _ f => f.elim)⟩
  | true => exact twice_in F nb ps i w h hi hin
/-- No net. -/
theorem look_nil (i : Int) (w : World) : Calls Tryz.prog 24 #[.pointer none, .int .i64 i] w fun e w' => e = .returned (.tuple #[packVal PackV.zero, .bool false]) ∧ Keep NoF w w' := by
  have hb := heap_new w (.cells (pkC 0 0 0 0 0 false) 23 (0, 0))
  have HB := Lib.hid hb
  have HK := Lib.hid (keep_alloc w (.cells (pkC 0 0 0 0 0 false) 23 (0, 0)))
  clear hb
  go_enter Tryz.func24, Tryz.ntmps24
  go_wp2_with fail
  refine bodyPost_ret (results_pk rfl _ _ w.heap.size _ _ _ rfl HB.out rfl) rfl ?_
  exact ⟨rfl, HK.out⟩
theorem take_nil (i : Int) (w : World) : Calls Tryz.prog 25 #[.pointer none, .int .i64 i] w fun e w' => e = .returned (.tuple #[packVal PackV.zero, .bool false]) ∧ Keep NoF w w' :=
  take_no none i w fun W _ => look_nil i W
theorem twice_nil (i : Int) (w : World) : Calls Tryz.prog 23 #[.pointer none, .int .i64 i] w fun e w' => e = .returned (.bool false) ∧ Keep NoF w w' :=
  twice_no none i w fun W _ => look_nil i W
theorem netlen_nil (w : World) : Calls Tryz.prog 26 #[.pointer none] w fun e w' => e = .returned (.int .i64 0) ∧ w' = w := by
  go_enter Tryz.func26, Tryz.ntmps26
  go_wp2_with fail
  go_ret
  exact ⟨rfl, rfl⟩
set_option maxHeartbeats 1000000 in
set_option maxRecDepth 8000 in
theorem send_nil (p : PackV) (w : World) (hp : GoodP p) :
    Calls Tryz.prog 21 #[.pointer none, packVal p] w fun e w' => e = .returned (.bool false) ∧ Keep NoF w w' := by
  have HE := Lib.hid (fun W => wenc_ok p W hp.1 hp.2)
  clear hp
  obtain ⟨k, f, t, d, n, y⟩ := p
  unfold packVal at HE ⊢
  simp only at HE ⊢
  go_enter Tryz.func21, Tryz.ntmps21
  go_wp2_with fail
  refine (HE.out _).mono ?_
  rintro e w1 ⟨v, rfl, hv, hk1, hvn⟩
  have K1 := Lib.hid ((keep_alloc w _).trans' hk1)
  clear hk1 hvn
  obtain ⟨ao, cp, rfl, hsl, hbo⟩ := hv.slb
  clear hsl hbo hv
  have heq := fun W => eqSl ao (wireB (⟨k, f, t, d, n, y⟩ : PackV)).length cp W
  generalize (wireB (⟨k, f, t, d, n, y⟩ : PackV)).length = m at heq ⊢
  go_wp2_with fail
  go_ret
  exact ⟨rfl, K1.out⟩
end Go.Proofs.YtlabhbjampkhpaaGreat
