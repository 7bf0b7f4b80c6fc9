/- A net's Look. -/
import Derived.Test.YtlabhbjampkhpaaGreatNet
import Derived.Lib.ConvBytes
open Go Go.RowKit Go.Maps Go.Sort Go.Shelf
namespace Go.Proofs.YtlabhbjampkhpaaGreat
theorem cvb (w : World) (l : List UInt8) (n : Nat) (hn : l.length = n) (hm : n ≤ 1000) : ∃ ao cp w2, (convert 9 24 (.string (bstr l))).run Tryz.prog w = .ok (.slice ao n cp) w2 ∧ Keep NoF w w2 ∧ SlB w2 ao cp l ∧ ∀ g, blockOf ao = some g → g < w2.heap.size := by
  have h := Lib.run_convert_string_bytes (P := Tryz.prog) w 9 24 5 (bstr l) Tryz.underlying9 Tryz.underlying24 Tryz.underlying5
  have hs : (bstr l).size = n := by rw [bstr_size, hn]
  rw [hs] at h
  refine ⟨_, _, _, h, ⟨rfl, rfl, rfl, by rw [Lib.bytesWorld_size]; omega, fun k hk _ => Lib.bytesWorld_at_old w _ _ k hk⟩, ⟨by rw [hn]; exact grownCap_ge _ _ _ _, grownCap_le_maxLen _ _ _ _ (by unfold maxLen; omega), fun i hi => ⟨w.heap.size, 0, rfl, ?_⟩⟩, ?_⟩
  · rw [Nat.zero_add, Lib.bytesWorld_cell w _ _ i (by rw [hs, ← hn]; exact hi)]
    simp [bstr, bval, List.getD, hi]
  · intro g hg
    simp [blockOf] at hg
    rw [Lib.bytesWorld_size]; omega
def LookPost (w : World) (ps : List PackV) (i : Int) (e : Ending) (w' : World) : Prop :=
  e = .returned (.tuple #[packVal (lookP ps i), .bool (inP ps i)]) ∧ Keep NoF w w'
set_option maxHeartbeats 2000000 in
set_option maxRecDepth 8000 in
theorem look_out (F : Nat → Prop) (nb : Nat) (ps : List PackV) (i : Int) (w : World) (h : NetW w F nb ps) (hi : -9223372036854775808 ≤ i ∧ i ≤ 9223372036854775807) (hin : inP ps i = false) :
    Calls Tryz.prog 24 #[.pointer (some ⟨nb, 0, none⟩), .int .i64 i] w (LookPost w ps i) := by
  obtain ⟨b, v, l, h⟩ := h
  obtain ⟨b1, b2, b3⟩ := h.bounds
  have HAT := Lib.hid (fun W (hW : NetR W F nb b v l ps) => atS_any b _ #[] v l i W hW.bag b1 b2 hi)
  rw [atS_map h.exp i, (atP_out hin).1] at HAT
  simp only [Option.map_none, Option.getD_none, Option.isSome_none] at HAT
  have HL : Hid (lookP ps i = PackV.zero ∧ inP ps i = false) := Lib.hid ⟨(atP_out hin).2, hin⟩
  have hZ := heap_new w (.cells (pkC 0 0 0 0 0 false) 23 (0, 0))
  have ka := keep_alloc w (.cells (pkC 0 0 0 0 0 false) 23 (0, 0))
  have hn := h.keep ka (fun _ _ f => f)
  clear h b1 b2 b3 hin hi
  go_enter Tryz.func24, Tryz.ntmps24
  go_upto_region 1 with fail
  show Code.wp _ _ _ _ (w.alloc (.cells (pkC 0 0 0 0 0 false) 23 (0, 0)))
  obtain ⟨Z0, hz0⟩ : ∃ Z, w.heap.size = Z := ⟨_, rfl⟩
  rw [hz0] at hZ
  have hz1 : w.heap.size ≤ Z0 := by omega
  generalize w.alloc (.cells (pkC 0 0 0 0 0 false) 23 (0, 0)) = W0 at hZ ka hn ⊢
  rw [hz0]
  have HN := Lib.hid hn; have HZ := Lib.hid hZ; have KA := Lib.hid ka; have HZL := Lib.hid hz1
  have c0 := cell_of_heap hn.row 0
  simp at c0
  clear hn hZ ka hz0 hz1
  go_wp2_with fail
  refine (HAT.out _ HN.out).mono ?_
  rintro e w1 ⟨rfl, hk⟩
  have hZ1 : w1.heap[Z0]? = some (.cells (pkC 0 0 0 0 0 false) 23 (0, 0)) := by rw [hk.block _ (lt_of_heap HZ.out) (fun f => f)]; exact HZ.out
  have HK := Lib.hid (KA.out.trans' hk)
  have HZZ := HZL
  clear hk c0 HN HAT HZ
  have y0 := free_of_heap hZ1 0
  have y1 := free_of_heap hZ1 1
  have y2 := free_of_heap hZ1 2
  have y3 := free_of_heap hZ1 3
  have y4 := free_of_heap hZ1 4
  have y5 := free_of_heap hZ1 5
  have hp6 := pk_set hZ1 HK.out HZZ.out 0 0 0 0 0 false
  have z0 := cell_of_heap hZ1 0
  have z1 := cell_of_heap hZ1 1
  have z2 := cell_of_heap hZ1 2
  have z3 := cell_of_heap hZ1 3
  have z4 := cell_of_heap hZ1 4
  have z5 := cell_of_heap hZ1 5
  simp [pkC] at z0 z1 z2 z3 z4 z5
  have HP6 := Lib.hid hp6
  clear hZ1 hp6
  go_wp2_with fail
  refine bodyPost_ret (results_pk rfl _ _ Z0 _ _ _ rfl HP6.out.1 rfl) rfl ?_
  unfold LookPost
  rw [HL.out.1, HL.out.2]
  exact ⟨rfl, HP6.out.2⟩
set_option maxHeartbeats 4000000 in
set_option maxRecDepth 8000 in
theorem look_in (F : Nat → Prop) (nb : Nat) (ps : List PackV) (i : Int) (w : World) (h : NetW w F nb ps) (hi : -9223372036854775808 ≤ i ∧ i ≤ 9223372036854775807) (hin : inP ps i = true) :
    Calls Tryz.prog 24 #[.pointer (some ⟨nb, 0, none⟩), .int .i64 i] w (LookPost w ps i) := by
  obtain ⟨b, v, l, h⟩ := h
  obtain ⟨b1, b2, b3⟩ := h.bounds
  have HAT := Lib.hid (fun W (hW : NetR W F nb b v l ps) => atS_any b _ #[] v l i W hW.bag b1 b2 hi)
  obtain ⟨hlt, hat, hlk, _⟩ := atP_in hin
  have hgp := h.gp _ (List.getElem_mem hlt)
  rw [atS_map h.exp i, hat] at HAT
  simp only [Option.map_some, Option.getD_some, Option.isSome_some] at HAT
  have HL : Hid (lookP ps i = ps[i.toNat] ∧ inP ps i = true) := Lib.hid ⟨hlk, hin⟩
  generalize ps[i.toNat] = p at HL hgp HAT
  have hdw := dec_wire p hgp.1 hgp.2
  have hwl := wireB_length p
  have henc : encP p = bstr (wireB p) := rfl
  rw [henc] at HAT
  have HDW := Lib.hid hdw; have HWL := Lib.hid hwl
  have hZ := heap_new w (.cells (pkC 0 0 0 0 0 false) 23 (0, 0))
  have ka := keep_alloc w (.cells (pkC 0 0 0 0 0 false) 23 (0, 0))
  have hn := h.keep ka (fun _ _ f => f)
  clear h b1 b2 b3 hin hi hlt hat hlk hgp hdw hwl henc
  obtain ⟨xk, xf, xt, xd, xn, xy⟩ := p
  obtain ⟨A, hA⟩ : ∃ A, wireB (⟨xk, xf, xt, xd, xn, xy⟩ : PackV) = A := ⟨_, rfl⟩
  rw [hA] at HAT HDW HWL
  clear hA
  go_enter Tryz.func24, Tryz.ntmps24
  go_upto_region 1 with fail
  show Code.wp _ _ _ _ (w.alloc (.cells (pkC 0 0 0 0 0 false) 23 (0, 0)))
  obtain ⟨Z0, hz0⟩ : ∃ Z, w.heap.size = Z := ⟨_, rfl⟩
  rw [hz0] at hZ
  have hz1 : w.heap.size ≤ Z0 := by omega
  generalize w.alloc (.cells (pkC 0 0 0 0 0 false) 23 (0, 0)) = W0 at hZ ka hn ⊢
  rw [hz0]
  have HN := Lib.hid hn; have HZ := Lib.hid hZ; have KA := Lib.hid ka; have HZL := Lib.hid hz1
  have c0 := cell_of_heap hn.row 0
  simp at c0
  clear hn hZ ka hz0 hz1
  go_wp2_with fail
  refine (HAT.out _ HN.out).mono ?_
  rintro e w1 ⟨rfl, hk⟩
  have hZ1 : w1.heap[Z0]? = some (.cells (pkC 0 0 0 0 0 false) 23 (0, 0)) := by rw [hk.block _ (lt_of_heap HZ.out) (fun f => f)]; exact HZ.out
  have HK := Lib.hid (KA.out.trans' hk)
  obtain ⟨ao, cp, w2, hcv, hk2, hsl, hbl⟩ := cvb w1 A 21 HWL.out (by decide)
  have HD := Lib.hid (wdec_at ao 21 cp A w2 hsl HWL.out hbl)
  have HK2 := Lib.hid (HK.out.trans' hk2)
  have hZ2 : w2.heap[Z0]? = some (.cells (pkC 0 0 0 0 0 false) 23 (0, 0)) := by rw [hk2.block _ (lt_of_heap hZ1) (fun f => f)]; exact hZ1
  have HZ2 := Lib.hid hZ2
  clear hk hZ1 HK hk2 hsl hbl hZ2 c0 HN HAT HZ KA
  go_wp2_with fail
  refine HD.out.mono ?_
  rintro e w3 ⟨rfl, hk3⟩
  rw [HDW.out.1, HDW.out.2]
  unfold packVal
  simp only
  have hZ3 : w3.heap[Z0]? = some (.cells (pkC 0 0 0 0 0 false) 23 (0, 0)) := by rw [hk3.block _ (lt_of_heap HZ2.out) (fun f => f)]; exact HZ2.out
  have HK3 := Lib.hid (HK2.out.trans' hk3)
  have HZZ := HZL
  clear hcv HD HK2 HZ2 hk3
  obtain ⟨Y, hY⟩ : ∃ Y, w3.heap.size = Y := ⟨_, rfl⟩
  go_upto_region 7 with fail
  have h6 := heap_new w3 (.cells (pkC xk xf xt xd xn xy) 23 (0, 0))
  rw [hY] at h6
  have hka : Keep NoF w3 (w3.alloc (.cells (pkC xk xf xt xd xn xy) 23 (0, 0))) := keep_alloc _ _
  show Code.wp _ _ _ _ (w3.alloc (.cells (pkC xk xf xt xd xn xy) 23 (0, 0)))
  generalize w3.alloc (.cells (pkC xk xf xt xd xn xy) 23 (0, 0)) = WA at h6 hka ⊢
  have hZ9 : WA.heap[Z0]? = some (.cells (pkC 0 0 0 0 0 false) 23 (0, 0)) := by rw [hka.block _ (lt_of_heap hZ3) (fun f => f)]; exact hZ3
  have y0 := free_of_heap hZ9 0
  have y1 := free_of_heap hZ9 1
  have y2 := free_of_heap hZ9 2
  have y3 := free_of_heap hZ9 3
  have y4 := free_of_heap hZ9 4
  have y5 := free_of_heap hZ9 5
  have hp6 := pk_set hZ9 (HK3.out.trans' hka) HZZ.out xk xf xt xd xn xy
  have z0 := cell_of_heap hZ9 0
  have z1 := cell_of_heap hZ9 1
  have z2 := cell_of_heap hZ9 2
  have z3 := cell_of_heap hZ9 3
  have z4 := cell_of_heap hZ9 4
  have z5 := cell_of_heap hZ9 5
  have q0 := cell_of_heap h6 0
  have q1 := cell_of_heap h6 1
  have q2 := cell_of_heap h6 2
  have q3 := cell_of_heap h6 3
  have q4 := cell_of_heap h6 4
  have q5 := cell_of_heap h6 5
  simp [pkC] at z0 z1 z2 z3 z4 z5 q0 q1 q2 q3 q4 q5
  have HP6 := Lib.hid hp6
  clear hZ9 hp6 h6 hka hZ3 hY
  go_wp2_with fail
  refine bodyPost_ret (results_pk rfl _ _ Z0 _ _ _ rfl HP6.out.1 rfl) rfl ?_
  unfold LookPost
  rw [HL.out.1, HL.out.2]
  exact ⟨rfl, HP6.out.2⟩
theorem look_any (F : Nat → Prop) (nb : Nat) (ps : List PackV) (i : Int) (w : World) (h : NetW w F nb ps) (hi : -9223372036854775808 ≤ i ∧ i ≤ 9223372036854775807) :
    Calls Tryz.prog 24 #[.pointer (some ⟨nb, 0, none⟩), .int .i64 i] w (LookPost w ps i) := by
  cases hin : inP ps i with
  | false => exact look_out F nb ps i w h hi hin
  | true => exact look_in F nb ps i w h hi hin
end Go.Proofs.YtlabhbjampkhpaaGreat
