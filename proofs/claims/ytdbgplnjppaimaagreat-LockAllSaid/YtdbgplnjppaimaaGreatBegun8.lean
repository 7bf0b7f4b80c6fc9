/- The statements' own opening check returns true. -/
import Derived.Test.YtdbgplnjppaimaaGreatDec
import Derived.Test.YtdbgplnjppaimaaGreatPack
import Derived.Test.YtdbgplnjppaimaaGreatEqR
open Go Go.RowKit
namespace Go.Proofs.YtdbgplnjppaimaaGreat

set_option maxHeartbeats 400000 in
theorem lbegun_any (w : World) : Calls Tryz.prog 64 #[] w fun e w' => e = .returned (.bool true) ∧ Keep NoF w w' := by
  go_enter Tryz.func64, Tryz.ntmps64
  go_wp2_with fail
  refine (begun_any w).mono ?_
  rintro e w1 ⟨rfl, hk⟩
  have HK := Lib.hid hk; clear hk
  go_wp2_with fail
  go_ret
  exact ⟨rfl, HK.out⟩

def bq : ByteArray := ⟨#[113]⟩
def bb : ByteArray := ⟨#[98]⟩
def rec0 : RecV := ⟨4, 8589934597, 0, false, [], [⟨bq, bb⟩]⟩
theorem rec0_ok : recB rec0 = true := by decide +kernel
theorem recN_bad : recB RecV.none = false := by decide +kernel
theorem pack0_ok : packB ⟨5, 1, 2, 8589934597, 0, false⟩ = true := by decide +kernel
theorem dec_nil : decOk [] = false := by decide +kernel
theorem dec_rec0 : decOk (encB rec0) = true ∧ decV (encB rec0) = rec0 := ⟨decOk_enc _ rec0_ok, (dec_enc _ rec0_ok).1⟩
theorem eq_rec0 : eqRec rec0 rec0 = true := eqRec_iff.2 rfl
theorem abc_ok : queueB ⟨#[97, 98, 99]⟩ = true := by decide +kernel
theorem emp_bad : queueB ⟨#[]⟩ = false := by decide +kernel
theorem capA_bad : queueB ⟨#[65]⟩ = false := by decide +kernel
theorem body_emp : bodyB ⟨#[]⟩ = true := by decide +kernel
theorem make25 : makeOf 2 5 = 8589934597 := by decide +kernel
theorem tid25 : tidB 8589934597 = true := by decide +kernel
theorem home25 : homeOf 8589934597 = 2 := by decide +kernel
theorem tid20 : tidB 8589934592 = false := by decide +kernel
theorem rec0_at (w : World) : RecAt (w.alloc (.cells #[.string bq, .string bb] 28)) rec0 none 0 (some ⟨w.heap.size, 0, none⟩) 1 := by
  refine ⟨by unfold InI64 rec0; decide, by unfold InI64 rec0; decide, by unfold InI64 rec0; decide, SlI.nil _, ⟨by decide, by decide, ?_, ?_⟩⟩
  · intro p hp
    obtain rfl : p = ⟨bq, bb⟩ := by simpa [rec0] using hp
    decide
  · intro i hi
    obtain rfl : i = 0 := by simp [rec0] at hi; omega
    exact ⟨_, _, rfl, by rw [cell_of_heap (heap_new _ _)]; rfl, by rw [cell_of_heap (heap_new _ _)]; rfl⟩
theorem recN_at (w : World) : RecAt w RecV.none none 0 none 0 := ⟨zero_in, zero_in, zero_in, SlI.nil _, SlP.nil _⟩

set_option maxHeartbeats 4000000 in
theorem begun8_any (w : World) : Calls Tryz.prog 49 #[] w fun e w' => e = .returned (.bool true) ∧ Keep NoF w w' := by
  go_enter Tryz.func49, Tryz.ntmps49
  go_wp2_with fail
  refine (kmake_any 2 5 w (by omega) (by omega)).mono ?_
  rintro e w1 ⟨rfl, rfl⟩
  rw [make25]
  have hnil := fun W => Lib.run_eql_slice_nil (P := Tryz.prog) W 26 5 none 0 0 0 0 Tryz.underlying26
  have HNIL := Lib.hid hnil; clear hnil
  go_wp2_with fail
  have hA := rec0_at w1
  obtain ⟨B, hB⟩ : ∃ B, w1.heap.size = B := ⟨_, rfl⟩
  rw [hB] at hA ⊢
  have hA2 := hA.keep (keep_alloc _ (.cells #[.int .i64 4, .int .i64 8589934597, .int .i64 0, .bool false, .slice none 0 0, .slice (some ⟨B, 0, none⟩) 1 1] 95))
  have hRC0 : ((w1.alloc (.cells #[.string bq, .string bb] 28)).alloc (.cells #[.int .i64 4, .int .i64 8589934597, .int .i64 0, .bool false, .slice none 0 0, .slice (some ⟨B, 0, none⟩) 1 1] 95)).heap[B + 1]? = some (.cells #[.int .i64 4, .int .i64 8589934597, .int .i64 0, .bool false, .slice none 0 0, .slice (some ⟨B, 0, none⟩) 1 1] 95) := by
    rw [show B + 1 = (w1.alloc (.cells #[.string bq, .string bb] 28)).heap.size by rw [← hB]; simp]
    exact heap_new _ _
  have hK2 : Keep NoF w1 ((w1.alloc (.cells #[.string bq, .string bb] 28)).alloc (.cells #[.int .i64 4, .int .i64 8589934597, .int .i64 0, .bool false, .slice none 0 0, .slice (some ⟨B, 0, none⟩) 1 1] 95)) := ((keep_alloc _ _).alloc _)
  show Calls _ _ _ ((w1.alloc (.cells #[.string bq, .string bb] 28)).alloc (.cells #[.int .i64 4, .int .i64 8589934597, .int .i64 0, .bool false, .slice none 0 0, .slice (some ⟨B, 0, none⟩) 1 1] 95)) _
  generalize (w1.alloc (.cells #[.string bq, .string bb] 28)).alloc (.cells #[.int .i64 4, .int .i64 8589934597, .int .i64 0, .bool false, .slice none 0 0, .slice (some ⟨B, 0, none⟩) 1 1] 95) = W2 at hA2 hRC0 hK2 ⊢
  have RC : Hid (W2.cell? ⟨B + 1, 0, none⟩ = some (.int .i64 4) ∧ W2.cell? ⟨B + 1, 1, none⟩ = some (.int .i64 8589934597) ∧ W2.cell? ⟨B + 1, 2, none⟩ = some (.int .i64 0) ∧ W2.cell? ⟨B + 1, 3, none⟩ = some (.bool false) ∧
      W2.cell? ⟨B + 1, 4, none⟩ = some (.slice none 0 0) ∧ W2.cell? ⟨B + 1, 5, none⟩ = some (.slice (some ⟨B, 0, none⟩) 1 1)) := by
    refine ⟨?_, ?_, ?_, ?_, ?_, ?_⟩
    all_goals (rw [cell_of_heap hRC0]; rfl)
  have HA := Lib.hid hA2; have K2 := Lib.hid hK2
  clear hA hA2 hRC0 hK2 hB
  refine (encode_ok rec0 none 0 (some ⟨B, 0, none⟩) 1 W2 HA.out rec0_ok).mono ?_
  rintro e w3 ⟨v, rfl, hO, hk3, hf3⟩
  obtain ⟨ao, cp, rfl, sl, bk⟩ := hO.slb
  have hlt : ∀ g, blockOf ao = some g → g < w3.heap.size := fun g hg => hO.lt g (bk ▸ hg)
  have K3 := Lib.hid hk3
  have hdec := decode_any ao cp (encB rec0) w3 sl hlt
  unfold DecPost at hdec
  rw [dec_rec0.1, dec_rec0.2] at hdec
  simp only [if_true] at hdec
  obtain ⟨n, hn⟩ : ∃ n, (encB rec0).length = n := ⟨_, rfl⟩
  rw [hn] at hdec ⊢
  have HDEC := Lib.hid hdec
  clear hO hk3 hf3 sl bk hlt hdec hn
  go_wp2_with fail
  refine HDEC.out.mono ?_
  rintro e w4 ⟨a4, c4, a5, c5, rfl, hX, hk4, _, _⟩
  have HX := Lib.hid hX; have K4 := Lib.hid (K3.out.trans' hk4)
  clear hX hk4 HDEC
  unfold recVal
  go_wp2_with fail
  have hXC : (w4.alloc (.cells #[.int .i64 4, .int .i64 8589934597, .int .i64 0, .bool false, .slice a4 0 c4, .slice a5 1 c5] 95)).heap[w4.heap.size]? = some (.cells #[.int .i64 4, .int .i64 8589934597, .int .i64 0, .bool false, .slice a4 0 c4, .slice a5 1 c5] 95) := heap_new _ _
  have hK5 := K4.out.alloc (.cells #[.int .i64 4, .int .i64 8589934597, .int .i64 0, .bool false, .slice a4 0 c4, .slice a5 1 c5] 95)
  have hX5 := HX.out.keep (keep_alloc w4 (.cells #[.int .i64 4, .int .i64 8589934597, .int .i64 0, .bool false, .slice a4 0 c4, .slice a5 1 c5] 95))
  show Calls _ _ _ (w4.alloc (.cells #[.int .i64 4, .int .i64 8589934597, .int .i64 0, .bool false, .slice a4 0 c4, .slice a5 1 c5] 95)) _
  generalize w4.alloc (.cells #[.int .i64 4, .int .i64 8589934597, .int .i64 0, .bool false, .slice a4 0 c4, .slice a5 1 c5] 95) = W5 at hXC hK5 hX5 ⊢
  generalize w4.heap.size = X at hXC ⊢
  have XC : Hid (W5.cell? ⟨X, 0, none⟩ = some (.int .i64 4) ∧ W5.cell? ⟨X, 1, none⟩ = some (.int .i64 8589934597) ∧ W5.cell? ⟨X, 2, none⟩ = some (.int .i64 0) ∧ W5.cell? ⟨X, 3, none⟩ = some (.bool false) ∧
      W5.cell? ⟨X, 4, none⟩ = some (.slice a4 0 c4) ∧ W5.cell? ⟨X, 5, none⟩ = some (.slice a5 1 c5)) := by
    refine ⟨?_, ?_, ?_, ?_, ?_, ?_⟩
    all_goals (rw [cell_of_heap hXC]; rfl)
  have K5 := Lib.hid hK5; have HX5 := Lib.hid hX5
  clear hXC hK5 hX5 HX
  have hdec := decode_any none 0 [] W5 ⟨by simp, by simp, by simp⟩ nofun
  unfold DecPost at hdec
  rw [dec_nil] at hdec
  have HDEC := Lib.hid hdec
  clear hdec
  refine HDEC.out.mono ?_
  rintro e w6 ⟨b4, d4, b5, d5, rfl, _, hk6, _, _⟩
  have K6 := Lib.hid hk6; clear hk6 HDEC
  unfold recVal
  go_wp2_with fail
  have hK7 := K6.out.alloc (.cells #[.int .i64 0, .int .i64 0, .int .i64 0, .bool false, .slice b4 0 d4, .slice b5 0 d5] 95)
  show Calls _ _ _ (w6.alloc (.cells #[.int .i64 0, .int .i64 0, .int .i64 0, .bool false, .slice b4 0 d4, .slice b5 0 d5] 95)) _
  generalize w6.alloc (.cells #[.int .i64 0, .int .i64 0, .int .i64 0, .bool false, .slice b4 0 d4, .slice b5 0 d5] 95) = W7 at hK7 ⊢
  refine (lbegun_any W7).mono ?_
  rintro e w8 ⟨rfl, hk8⟩
  have K8 : Hid (Keep NoF W5 w8) := Lib.hid (hK7.trans' hk8)
  have K28 : Hid (Keep NoF W2 w8) := Lib.hid (K5.out.trans' K8.out)
  clear hK7 hk8 K6
  go_wp2_with fail
  refine (kqueue_any _ w8 (by decide)).mono ?_
  rintro e w9 ⟨rfl, h9⟩
  have h9s := h9.symm
  clear h9
  subst h9s
  rw [abc_ok]
  go_wp2_with fail
  refine (kqueue_any _ w8 (by decide)).mono ?_
  rintro e w9 ⟨rfl, h9⟩
  have h9s := h9.symm
  clear h9
  subst h9s
  rw [emp_bad]
  go_wp2_with fail
  refine (kqueue_any _ w8 (by decide)).mono ?_
  rintro e w9 ⟨rfl, h9⟩
  have h9s := h9.symm
  clear h9
  subst h9s
  rw [capA_bad]
  go_wp2_with fail
  refine (kbody_any _ w8).mono ?_
  rintro e w9 ⟨rfl, h9⟩
  have h9s := h9.symm
  clear h9
  subst h9s
  rw [body_emp]
  go_wp2_with fail
  refine (ktid_any _ w8 (by omega)).mono ?_
  rintro e w9 ⟨rfl, h9⟩
  have h9s := h9.symm
  clear h9
  subst h9s
  rw [tid25]
  go_wp2_with fail
  refine (khome_any _ w8 (by omega)).mono ?_
  rintro e w9 ⟨rfl, h9⟩
  have h9s := h9.symm
  clear h9
  subst h9s
  rw [home25]
  have r0 : w8.cell? ⟨B + 1, 0, none⟩ = some (.int .i64 4) := (K28.out).cell' RC.out.1 (fun f => f)
  have r1 : w8.cell? ⟨B + 1, 1, none⟩ = some (.int .i64 8589934597) := (K28.out).cell' RC.out.2.1 (fun f => f)
  have r2 : w8.cell? ⟨B + 1, 2, none⟩ = some (.int .i64 0) := (K28.out).cell' RC.out.2.2.1 (fun f => f)
  have r3 : w8.cell? ⟨B + 1, 3, none⟩ = some (.bool false) := (K28.out).cell' RC.out.2.2.2.1 (fun f => f)
  have r4 : w8.cell? ⟨B + 1, 4, none⟩ = some (.slice none 0 0) := (K28.out).cell' RC.out.2.2.2.2.1 (fun f => f)
  have r5 : w8.cell? ⟨B + 1, 5, none⟩ = some (.slice (some ⟨B, 0, none⟩) 1 1) := (K28.out).cell' RC.out.2.2.2.2.2 (fun f => f)
  go_wp2_with fail
  refine (ktid_any _ w8 (by omega)).mono ?_
  rintro e w9 ⟨rfl, h9⟩
  have h9s := h9.symm
  clear h9
  subst h9s
  rw [tid20]
  go_wp2_with fail
  refine (krecord_any rec0 none 0 (some ⟨B, 0, none⟩) 1 w8 (HA.out.keep K28.out)).mono ?_
  rintro e w9 ⟨rfl, hk9⟩
  rw [rec0_ok]
  have K9 := Lib.hid hk9
  clear hk9 r0 r1 r2 r3 r4 r5
  go_wp2_with fail
  refine (krecord_any RecV.none none 0 none 0 w9 (recN_at _)).mono ?_
  rintro e w10 ⟨rfl, hk10⟩
  rw [recN_bad]
  have K10 := Lib.hid hk10
  clear hk10
  go_wp2_with fail
  refine (kpacket_any ⟨5, 1, 2, 8589934597, 0, false⟩ w10 (by unfold PackV.Ok In64; decide)).mono ?_
  rintro e w11 ⟨rfl, hk11⟩
  rw [pack0_ok]
  have K211 : Hid (Keep NoF W2 w11) := Lib.hid (K28.out.trans' (K9.out.trans' (K10.out.trans' hk11)))
  have K511 : Hid (Keep NoF W5 w11) := Lib.hid (K8.out.trans' (K9.out.trans' (K10.out.trans' hk11)))
  clear hk11
  have r0 : w11.cell? ⟨B + 1, 0, none⟩ = some (.int .i64 4) := (K211.out).cell' RC.out.1 (fun f => f)
  have r1 : w11.cell? ⟨B + 1, 1, none⟩ = some (.int .i64 8589934597) := (K211.out).cell' RC.out.2.1 (fun f => f)
  have r2 : w11.cell? ⟨B + 1, 2, none⟩ = some (.int .i64 0) := (K211.out).cell' RC.out.2.2.1 (fun f => f)
  have r3 : w11.cell? ⟨B + 1, 3, none⟩ = some (.bool false) := (K211.out).cell' RC.out.2.2.2.1 (fun f => f)
  have r4 : w11.cell? ⟨B + 1, 4, none⟩ = some (.slice none 0 0) := (K211.out).cell' RC.out.2.2.2.2.1 (fun f => f)
  have r5 : w11.cell? ⟨B + 1, 5, none⟩ = some (.slice (some ⟨B, 0, none⟩) 1 1) := (K211.out).cell' RC.out.2.2.2.2.2 (fun f => f)
  have x0 : w11.cell? ⟨X, 0, none⟩ = some (.int .i64 4) := (K511.out).cell' XC.out.1 (fun f => f)
  have x1 : w11.cell? ⟨X, 1, none⟩ = some (.int .i64 8589934597) := (K511.out).cell' XC.out.2.1 (fun f => f)
  have x2 : w11.cell? ⟨X, 2, none⟩ = some (.int .i64 0) := (K511.out).cell' XC.out.2.2.1 (fun f => f)
  have x3 : w11.cell? ⟨X, 3, none⟩ = some (.bool false) := (K511.out).cell' XC.out.2.2.2.1 (fun f => f)
  have x4 : w11.cell? ⟨X, 4, none⟩ = some (.slice a4 0 c4) := (K511.out).cell' XC.out.2.2.2.2.1 (fun f => f)
  have x5 : w11.cell? ⟨X, 5, none⟩ = some (.slice a5 1 c5) := (K511.out).cell' XC.out.2.2.2.2.2 (fun f => f)
  go_wp2_with fail
  refine (keq_any rec0 rec0 a4 c4 a5 c5 none 0 (some ⟨B, 0, none⟩) 1 w11 (HX5.out.keep K511.out) (HA.out.keep K211.out)).mono ?_
  rintro e w12 ⟨rfl, hk12⟩
  rw [eq_rec0]
  have K12 := Lib.hid hk12
  clear hk12 r0 r1 r2 r3 r4 r5 x0 x1 x2 x3 x4 x5
  go_wp2_with fail
  refine (encode_bad RecV.none none 0 none 0 w12 (recN_at _) recN_bad).mono ?_
  rintro e w13 ⟨rfl, hk13⟩
  have K13 := Lib.hid hk13
  have hn13 := HNIL.out w13
  clear hk13
  go_wp2_with fail
  go_ret
  exact ⟨rfl, K2.out.trans' (K211.out.trans' (K12.out.trans' K13.out))⟩
end Go.Proofs.YtdbgplnjppaimaaGreat
