/- wire's seal: the sum of bytes behind them. -/
import Derived.Test.YtlabhbjampkhpaaGreatRows1
import Derived.Test.YtlabhbjampkhpaaGreatSum
open Go Go.RowKit
namespace Go.Proofs.YtlabhbjampkhpaaGreat
def sealB (l : List UInt8) : List UInt8 := (l ++ smallB (crcOf l)) ++ smallB ((crcOf l : Int) / 65536)
theorem sealB_length (l : List UInt8) : (sealB l).length = l.length + 4 := by simp [sealB, smallB_length]

theorem sof_at (ao : Option Addr) (n cp : Nat) (l : List UInt8) (w : World) (hl : SlB w ao cp l) (hn : l.length = n) :
    Calls Tryz.prog 55 #[.slice ao n cp] w fun e w' => e = .returned (.int .u32 (crcOf l)) ∧ w = w' := by
  subst hn; exact of_any ao cp l w hl

set_option maxHeartbeats 1000000 in
theorem sealed_any (v : Value) (l : List UInt8) (n : Nat) (w : World) (h : OwnB w v l) (hn : l.length = n) (hl : n ≤ 1000) :
    Calls Tryz.prog 33 #[v] w fun e w' => ∃ v', e = .returned v' ∧ OwnB w' v' (sealB l) ∧ Keep (fun k => v.ownBlock = some k) w w' ∧ (v'.ownBlock = v.ownBlock ∨ ∀ k, v'.ownBlock = some k → w.heap.size ≤ k) := by
  have hlt := h.lt
  obtain ⟨ao, cp, rfl, hs, hb⟩ := h.slb
  rw [hn]
  rw [hn] at h hlt hb
  have HO0 : Hid (OutR (w.alloc (.cells #[.slice ao n cp] 55 (0, 0))) w.heap.size (blockOf ao) l) := Lib.hid ⟨.slice ao n cp, ⟨heap_new _ _, h.keep ((Keep.refl NoF w).alloc _) (fun _ _ f => f), fun e => by have := hlt _ e; omega⟩, hb.symm⟩
  have HS := Lib.hid (hs.keep ((Keep.refl NoF w).alloc (.cells #[.slice ao n cp] 55 (0, 0))) (fun _ _ f => f))
  have HB := Lib.hid hb
  have HN := Lib.hid hn
  have HLT : Hid (∀ k, blockOf ao = some k → k < w.heap.size) := Lib.hid (by rw [hb]; exact hlt)
  have K0 := Lib.hid ((Keep.refl (fun k => blockOf ao = some k) w).alloc (.cells #[.slice ao n cp] 55 (0, 0)))
  clear hs hb h hlt hn
  go_enter Tryz.func33, Tryz.ntmps33
  go_wp2_with fail
  refine (sof_at ao n cp l _ HS.out HN.out).mono ?_
  rintro e w1 ⟨rfl, rfl⟩
  obtain ⟨c, hc⟩ : ∃ c, crcOf l = c := ⟨_, rfl⟩
  have HC := Lib.hid hc
  have hb := crcOf_lt l
  rw [hc] at hb ⊢
  clear hc
  have hc0 : 0 ≤ (c : Int) := by omega
  have hc1 : (c : Int) < 4294967296 := by omega
  go_wp2_with fail
  refine (small_any w.heap.size _ l (c : Int) _ HO0.out (by have := HN.out; omega)).mono ?_
  rintro e w2 ⟨rfl, g2, hr2, hk2, hg2⟩
  have HR2 := Lib.hid hr2
  have HOS2 := Lib.hid (And.intro hk2 hg2)
  clear hr2 hk2 hg2
  go_wp2_with fail
  refine (small_any w.heap.size g2 (l ++ smallB c) ((c : Int) / 65536) _ HR2.out (by simp [smallB_length]; have := HN.out; omega)).mono ?_
  rintro e w3 ⟨rfl, hs3⟩
  obtain ⟨g3, hr3, hk3, hg3⟩ := OutS.trans HOS2.out.1 HOS2.out.2 hs3
  obtain ⟨v, hv, hvg⟩ := hr3
  have cv := cell_of_heap hv.1 0
  have cv2 : w3.cell? ⟨w.heap.size, 0, none⟩ = some v := by rw [cv]; rfl
  have HV := Lib.hid hv; have HG := Lib.hid hvg; have HK3 := Lib.hid hk3; have HG3 := Lib.hid hg3
  clear hv cv hvg hk3 hg3 hs3 hc0 hc1 hb
  go_wp2_with fail
  go_ret
  refine ⟨v, rfl, ?_, ?_, ?_⟩
  · have e : sealB l = l ++ smallB c ++ smallB ((c : Int) / 65536) := by unfold sealB; rw [HC.out]
    rw [e]; exact HV.out.2.1
  · rw [← HB.out]
    exact K0.out.trans HK3.out (fun _ _ f => f) (fun i hi f => f.elim (fun f => by omega) (fun f => f))
  · rw [← HB.out, HG.out]
    rcases HG3.out with f | f
    · exact .inl f
    · exact .inr (fun k hk => by have := f k hk; have := K0.out.size; omega)
end Go.Proofs.YtlabhbjampkhpaaGreat
