/- SumLine: the law returns true and changes nothing that was there. No conditions. -/
import Derived.Test.YtdipknkajmoldaaRefSum
import Derived.Test.YtdipknkajmoldaaRows
import Derived.WalkKit
import Derived.ProofKit
import Derived.OpenShut
import Derived.ShutString
import Derived.ChangeOld
import Derived.Below
namespace Go.Proofs.Ytdipknkajmoldaa.sumLine
open Go Go.ChangeShapes Go.WideShapes Go.ChangeAt Go.RowKit
open Go.ChangeMaps (open_string shut_string)

theorem own : ownKnob Try.prog.godebug = none := by kernel_rfl
theorem laidOut : laidOutB Try.prog = true := by kernel_rfl

set_option maxHeartbeats 2000000 in
theorem walk (w : World) (a0 : Option Addr) (len0 cap0 : Nat) (z0 : List Int) (h0 : IsRow .u8 w a0 len0 cap0 z0) (a1 : Option Addr) (len1 cap1 : Nat) (z1 : List Int) (h1 : IsRow .u8 w a1 len1 cap1 z1) (a2 : Option Addr) (len2 cap2 : Nat) (z2 : List Int) (h2 : IsRow .u8 w a2 len2 cap2 z2) :
    Calls Try.prog 9 #[.slice a0 len0 cap0, .slice a1 len1 cap1, .slice a2 len2 cap2] w fun e w' => e = .returned (.bool true) ∧ Keep NoF w w' := by
  obtain ⟨l0, hl0, s0⟩ := h0.slb
  obtain ⟨l1, hl1, s1⟩ := h1.slb
  obtain ⟨l2, hl2, s2⟩ := h2.slb
  have q0 := h0.le; have q1 := h1.le; have q2 := h2.le
  unfold maxLen at q0 q1 q2
  obtain ⟨c0, d0⟩ := q0; obtain ⟨c1, d1⟩ := q1; obtain ⟨c2, d2⟩ := q2
  obtain ⟨m1, hm1⟩ : ∃ m1 : Nat, (if (60 : Int) < (len2 : Int) then (60 : Int) else (len2 : Int)) = (m1 : Int) := by
    by_cases h : (60 : Int) < (len2 : Int)
    · exact ⟨60, by rw [if_pos h]; rfl⟩
    · exact ⟨len2, by rw [if_neg h]⟩
  obtain ⟨m2, hm2⟩ : ∃ m2 : Nat, (if m1 < len1 then (m1 : Int) else (len1 : Int)) = (m2 : Int) := by
    by_cases h : m1 < len1
    · exact ⟨m1, by rw [if_pos h]⟩
    · exact ⟨len1, by rw [if_neg h]⟩
  obtain ⟨n, hn⟩ : ∃ n : Nat, (if m2 < len0 then (m2 : Int) else (len0 : Int)) = (n : Int) := by
    by_cases h : m2 < len0
    · exact ⟨m2, by rw [if_pos h]⟩
    · exact ⟨len0, by rw [if_neg h]⟩
  have b1 : m1 ≤ 60 ∧ m1 ≤ len2 := by split at hm1 <;> omega
  have b2 : m2 ≤ m1 ∧ m2 ≤ len1 := by split at hm2 <;> omega
  have b3 : n ≤ m2 ∧ n ≤ len0 := by split at hn <;> omega
  have n60 : n ≤ 60 := by omega
  have n0 : n ≤ len0 := by omega
  have n1 : n ≤ len1 := by omega
  have n2 : n ≤ len2 := by omega
  have i0 : (n : Int) ≤ cap0 := by omega
  have i1 : (n : Int) ≤ cap1 := by omega
  have i2 : (n : Int) ≤ cap2 := by omega
  have T0 := Lib.hid (s0.take n); have T1 := Lib.hid (s1.take n); have T2 := Lib.hid (s2.take n)
  have L0 : Hid ((l0.take n).length = n) := by show _ = _; rw [List.length_take]; omega
  have L1 : Hid ((l1.take n).length = n) := by show _ = _; rw [List.length_take]; omega
  have L2 : Hid ((l2.take n).length = n) := by show _ = _; rw [List.length_take]; omega
  generalize l0.take n = p0 at T0 L0
  generalize l1.take n = p1 at T1 L1
  generalize l2.take n = p2 at T2 L2
  have hdl : (xor3 p0 p1 p2).length = n := by rw [xor3_length _ _ _ (by rw [L0.out, L1.out]) (by rw [L0.out, L2.out]), L0.out]
  have hline := crcOf_line p0 p1 p2 (by rw [L0.out, L1.out]) (by rw [L0.out, L2.out])
  obtain ⟨d, hd⟩ : ∃ d, d = xor3 p0 p1 p2 := ⟨_, rfl⟩
  rw [← hd] at hdl hline
  have hdg : ∀ i, i < n → (d.getD i 0).toNat = (p0.getD i 0).toNat ^^^ (p1.getD i 0).toNat ^^^ (p2.getD i 0).toNat := by
    intro i h
    rw [hd, xor3_getD _ _ _ (by rw [L0.out, L1.out]) (by rw [L0.out, L2.out]) i (by rw [L0.out]; exact h), UInt8.toNat_xor, UInt8.toNat_xor]
  have DL := Lib.hid hdl; have HL := Lib.hid hline; have DG := Lib.hid hdg
  clear b1 b2 b3 s0 s1 s2 hl0 hl1 hl2 h0 h1 h2 hdl hline hdg hd
  go_enter Try.func9, Try.ntmps9
  go_wp2_with fail
  refine (begun_any w).mono ?_
  rintro e w1 ⟨rfl, hk⟩
  have K1 := Lib.hid hk; clear hk
  go_wp2_with (at_make; refine wpList_mk 25 5 (.int .u8 0) 1 Try.underlying25 infoU8 rfl rfl rfl n rfl rfl (by omega) (by unfold maxLen; omega) ?_)
  intro w2 hown hgr
  have K2 := Lib.hid (K1.out.grown hgr (fun k _ e => by cases e) : Keep NoF w w2)
  have K12 := Lib.hid ((Keep.refl NoF w1).grown hgr (fun k _ e => by cases e) : Keep NoF w1 w2)
  have hB : w1.heap.size ≤ w1.heap.size := Nat.le_refl _
  clear hgr hm1 hm2 hn hB
  have O2 : Hid (w2.ownsRow 0 5 1 (.slice (some ⟨w1.heap.size, 0, none⟩) n n) n (bvs (d.take 0 ++ List.replicate (n - 0) 0))) := by
    show World.ownsRow _ _ _ _ _ _ _
    rw [List.take_zero, List.nil_append, Nat.sub_zero, bvs_replicate]; exact hown
  have hwB : Hid (w.heap.size ≤ w1.heap.size) := K1.out.size
  clear hown
  generalize w1.heap.size = B at O2 hwB ⊢
  go_wp2_with fail
  go_loopw [27] (fun i wr => ∃ k : Nat, k ≤ n ∧ i = .int .i64 k ∧ wr.ownsRow 0 5 1 (.slice (some ⟨B, 0, none⟩) n n) n (bvs (d.take k ++ List.replicate (n - k) 0)) ∧ Keep NoF w wr) (fun i _ => n - (intOf i).toNat)
  case atStart => exact ⟨0, Nat.zero_le _, rfl, O2.out, K2.out⟩
  case round =>
    obtain ⟨k, hk, rfl, hO, hK⟩ := hrel
    clear O2 K2 K12
    by_cases hlt : k < n
    · obtain ⟨g0, o0, rfl, r0⟩ := (T0.out.keep hK (fun _ _ f => f)).cellD k (by rw [L0.out]; exact hlt)
      obtain ⟨g1, o1, rfl, r1⟩ := (T1.out.keep hK (fun _ _ f => f)).cellD k (by rw [L1.out]; exact hlt)
      obtain ⟨g2, o2, rfl, r2⟩ := (T2.out.keep hK (fun _ _ f => f)).cellD k (by rw [L2.out]; exact hlt)
      have hx := DG.out k hlt
      have hst := hO.stored k (.int .u8 ((d.getD k 0).toNat : Int))
      rw [line_set d n k DL.out hlt, hx] at hst
      obtain ⟨vold, hcd⟩ : ∃ v, wr.cell? ⟨B, k, none⟩ = some v := ⟨_, by rw [hO.cellAt k (by omega)]; exact List.getElem?_eq_getElem (by have := hO.1; omega)⟩
      have hfd := hO.frozenAt k
      have y0 := (p0.getD k 0).toNat_lt
      have y1 := (p1.getD k 0).toNat_lt
      have y2 := (p2.getD k 0).toNat_lt
      generalize (p0.getD k 0).toNat = x0 at *
      generalize (p1.getD k 0).toNat = x1 at *
      generalize (p2.getD k 0).toNat = x2 at *
      have e1 := u8_xor_nat x0 x1 (by omega) (by omega)
      have e2 := u8_xor_nat (x0 ^^^ x1) x2 (Nat.xor_lt_two_pow (n := 8) (by omega) (by omega)) (by omega)
      have Hst := Lib.hid hst
      clear hst hx hO
      go_wp2_with fail
      have Hst2 := Lib.hid (hK.setCell (p := ⟨B, k, none⟩) (fun h => by have := hwB.out; simp only at h; omega) (.int .u8 ((x0 ^^^ x1 ^^^ x2 : Nat) : Int)))
      clear hK
      go_region
      go_wp2_with fail
      go_roundw
      case rel => exact ⟨k + 1, by omega, by go_num, Hst.out.1, Hst2.out.drew⟩
      case measure => simp [intOf]; omega
    · obtain rfl : k = n := by omega
      have hO' : OwnB wr (.slice (some ⟨B, 0, none⟩) k k) d := by
        have e : d.take k ++ List.replicate (k - k) 0 = d := by rw [Nat.sub_self, List.replicate_zero, List.append_nil, ← DL.out, List.take_length]
        rw [e] at hO
        rw [OwnB, DL.out]; exact hO
      obtain ⟨ao', cp', e4, sd, _⟩ := hO'.slb
      injection e4 with e4 e5 e6
      subst e4 e6
      have SD := Lib.hid sd
      have U0 := Lib.hid (T0.out.keep hK (fun _ _ f => f)); have U1 := Lib.hid (T1.out.keep hK (fun _ _ f => f)); have U2 := Lib.hid (T2.out.keep hK (fun _ _ f => f))
      have HK := Lib.hid hK
      clear hO hO' sd e5 hK T0 T1 T2
      have x0 := crcOf_lt p0
      have x1 := crcOf_lt p1
      have x2 := crcOf_lt p2
      have e1 := xor_u32 (crcOf p0) (crcOf p1) x0 x1
      have e2 := xor_u32 (crcOf p0 ^^^ crcOf p1) (crcOf p2) (xor_lt32 x0 x1) x2
      rw [HL.out] at e2
      have j0 : k ≤ len0 := n0
      have j1 : k ≤ len1 := n1
      have j2 : k ≤ len2 := n2
      go_wp2_with fail
      go_quiet ((first | (go_at_call 44; exact Calls.quiet_of_same ((of_at a0 k cap0 p0 _ (U0.out.drewN _) L0.out).mono fun e w' h => ⟨h.1, h.2.symm⟩)) | (go_at_call 44; exact Calls.quiet_of_same ((of_at a1 k cap1 p1 _ (U1.out.drewN _) L1.out).mono fun e w' h => ⟨h.1, h.2.symm⟩)) | (go_at_call 44; exact Calls.quiet_of_same ((of_at a2 k cap2 p2 _ (U2.out.drewN _) L2.out).mono fun e w' h => ⟨h.1, h.2.symm⟩)) | (go_at_call 44; exact Calls.quiet_of_same ((of_at (some ⟨B, 0, none⟩) k k d _ (SD.out.drewN _) DL.out).mono fun e w' h => ⟨h.1, h.2.symm⟩))))
      go_wp2_with fail
      go_ret
      exact ⟨rfl, HK.out.drewN _⟩

set_option linter.unusedVariables false
set_option maxRecDepth 100000 in
theorem lifted (os : Os) (started : os.Started) (H : Type) (enc : TypeId × Value → H) :
    ReturnsInHanded {} Try.checked os 9 .any (Rows.sumLineSpec.pre6 enc Try.prog Try.f9 Rows.sumLineRow.domain false) (Rows.sumLineSpec.post enc Try.prog Try.f9 false true false false) := by
  refine returnsInHanded_of_change (C := Try.checked) own started (by kernel_rfl) Try.func9
    (ChangeSpec.witness6 (enc := enc) (C := Try.checked) false ⟨#[], #[.slice none 0 0, .slice none 0 0, .slice none 0 0], []⟩ 8 (by kernel_rfl) (by kernel_rfl) (by kernel_rfl) (by kernel_rfl)) ?_
  intro W base args ds gs before hval0 hW hcnd _
  have hval : ∀ (j : Nat) t v, Try.f9.params[j]? = some t → args[j]? = some v → Value.okWide Try.prog W .any base t v := hval0
  have hW' := hW
  obtain ⟨p, q, hA0, hV, rfl, hfz, hnd⟩ := hW
  have hA : DataW.TrodAll enc Try.prog W 0 (fun _ => true) true Try.f9.params.toList args.toList ds p := hA0
  rw [Try.params9] at hA hval
  obtain ⟨v0, vs0, d0, ds0, p0, q0, hargs, rfl, rfl, h0, r0⟩ := trodAll_cons hA
  obtain ⟨v1, vs1, d1, ds1, p1, q1, rfl, rfl, rfl, h1, r1⟩ := trodAll_cons r0
  obtain ⟨v2, vs2, d2, ds2, p2, q2, rfl, rfl, rfl, h2, r2⟩ := trodAll_cons r1
  obtain ⟨rfl, rfl, rfl⟩ := trodAll_nil r2
  obtain rfl : args = #[v0, v1, v2] := by cases args; simp_all
  obtain ⟨rfl, rfl⟩ := trodVars_none hV
  obtain ⟨a0, len0, cap0, rfl⟩ := okWide_slice Try.underlying25 (hval 0 25 v0 rfl rfl)
  have k0 := h0
  have lt0 : ∀ x ∈ p0, x.block < W.heap.size := by obtain ⟨m, hm⟩ := k0; exact DataW.trod_lt m _ _ _ hm
  obtain ⟨z0, w0⟩ : ∃ zs, IsRow .u8 W a0 len0 cap0 zs := by
    obtain ⟨fuel, hf⟩ := h0
    rcases open_ints Try.underlying25 Try.underlying5 (by kernel_rfl) hf with ⟨hcs, _⟩ | ⟨x, l, c, zs, hcs, _, hl, hm, hz, _, hcell, hwz⟩
    · simp [Value.cells] at hcs
      obtain ⟨rfl, rfl, rfl⟩ := hcs
      exact ⟨[], .inl ⟨rfl, rfl, rfl, rfl⟩⟩
    · simp [Value.cells] at hcs
      obtain ⟨rfl, rfl, rfl⟩ := hcs
      exact ⟨zs, .inr ⟨_, rfl, hl, hm, by simpa using hz, hcell, hwz⟩⟩
  obtain ⟨a1, len1, cap1, rfl⟩ := okWide_slice Try.underlying25 (hval 1 25 v1 rfl rfl)
  have k1 := h1
  have lt1 : ∀ x ∈ p1, x.block < W.heap.size := by obtain ⟨m, hm⟩ := k1; exact DataW.trod_lt m _ _ _ hm
  obtain ⟨z1, w1⟩ : ∃ zs, IsRow .u8 W a1 len1 cap1 zs := by
    obtain ⟨fuel, hf⟩ := h1
    rcases open_ints Try.underlying25 Try.underlying5 (by kernel_rfl) hf with ⟨hcs, _⟩ | ⟨x, l, c, zs, hcs, _, hl, hm, hz, _, hcell, hwz⟩
    · simp [Value.cells] at hcs
      obtain ⟨rfl, rfl, rfl⟩ := hcs
      exact ⟨[], .inl ⟨rfl, rfl, rfl, rfl⟩⟩
    · simp [Value.cells] at hcs
      obtain ⟨rfl, rfl, rfl⟩ := hcs
      exact ⟨zs, .inr ⟨_, rfl, hl, hm, by simpa using hz, hcell, hwz⟩⟩
  obtain ⟨a2, len2, cap2, rfl⟩ := okWide_slice Try.underlying25 (hval 2 25 v2 rfl rfl)
  have k2 := h2
  have lt2 : ∀ x ∈ p2, x.block < W.heap.size := by obtain ⟨m, hm⟩ := k2; exact DataW.trod_lt m _ _ _ hm
  obtain ⟨z2, w2⟩ : ∃ zs, IsRow .u8 W a2 len2 cap2 zs := by
    obtain ⟨fuel, hf⟩ := h2
    rcases open_ints Try.underlying25 Try.underlying5 (by kernel_rfl) hf with ⟨hcs, _⟩ | ⟨x, l, c, zs, hcs, _, hl, hm, hz, _, hcell, hwz⟩
    · simp [Value.cells] at hcs
      obtain ⟨rfl, rfl, rfl⟩ := hcs
      exact ⟨[], .inl ⟨rfl, rfl, rfl, rfl⟩⟩
    · simp [Value.cells] at hcs
      obtain ⟨rfl, rfl, rfl⟩ := hcs
      exact ⟨zs, .inr ⟨_, rfl, hl, hm, by simpa using hz, hcell, hwz⟩⟩
  clear hA0 hval0
  refine (walk W a0 len0 cap0 z0 w0 a1 len1 cap1 z1 w1 a2 len2 cap2 z2 w2).mono fun e W' ⟨he, hk⟩ => ?_
  subst he
  have bel := Keep.below hk
  exact ⟨_, rfl, _, _, _, [], _, [], hW', trodAll_mk1 (shut_bool Try.underlying4 _), (trodAll_cons_mk (Below.trod laidOut (by kernel_rfl) (of_decide_eq_true (by kernel_rfl)) k0 bel lt0) (trodAll_cons_mk (Below.trod laidOut (by kernel_rfl) (of_decide_eq_true (by kernel_rfl)) k1 bel lt1) (trodAll_cons_mk (Below.trod laidOut (by kernel_rfl) (of_decide_eq_true (by kernel_rfl)) k2 bel lt2) trodAll_mk0))), rfl, bel.frame _, fun h => by cases h⟩

theorem over : Rows.sumLineRow.holds Try.pinned (OpenSpec.ofChange Rows.sumLineSpec) :=
  OpenClaim.holds_of_wide 9 Try.f9 rfl rfl rfl rfl rfl rfl rfl ⟨rfl, rfl, rfl, rfl, rfl⟩ rfl rfl rfl rfl rfl (by kernel_rfl) Try.func9 (by kernel_rfl)
    (of_decide_eq_true (by kernel_rfl)) (by unfold Func.isWrapper; rw [if_neg (of_decide_eq_false (by kernel_rfl))]; exact ⟨rfl, rfl⟩)
    (fun os started H enc _ => lifted os started H enc)

/-- The statement. -/
theorem proved : Rows.SumLineSaid := over
#print axioms proved
end Go.Proofs.Ytdipknkajmoldaa.sumLine
