/- SumAll: the law returns true and changes nothing that was there. No conditions. -/
import Derived.Test.YtdipknkajmoldaaRefSum
import Derived.Test.YtdipknkajmoldaaRows
import Derived.WalkKit
import Derived.ProofKit
import Derived.OpenShut
import Derived.ShutString
import Derived.ChangeOld
import Derived.Below
namespace Go.Proofs.Ytdipknkajmoldaa.sumAll
open Go Go.ChangeShapes Go.WideShapes Go.ChangeAt Go.RowKit
open Go.ChangeMaps (open_string shut_string)

theorem own : ownKnob Try.prog.godebug = none := by kernel_rfl
theorem laidOut : laidOutB Try.prog = true := by kernel_rfl

set_option maxHeartbeats 4000000 in
theorem walk (w : World) (a0 : Option Addr) (len0 cap0 : Nat) (z0 : List Int) (h0 : IsRow .u8 w a0 len0 cap0 z0) (a1 : Option Addr) (len1 cap1 : Nat) (z1 : List Int) (h1 : IsRow .u8 w a1 len1 cap1 z1) :
    Calls Try.prog 7 #[.slice a0 len0 cap0, .slice a1 len1 cap1] w fun e w' => e = .returned (.bool true) ∧ Keep NoF w w' := by
  obtain ⟨l0, hl0, s0⟩ := h0.slb
  obtain ⟨l1, hl1, s1⟩ := h1.slb
  have S0 := Lib.hid s0; have S1 := Lib.hid s1; have E0 := Lib.hid hl0; have E1 := Lib.hid hl1
  clear s0 s1 hl0 hl1 h0 h1
  go_enter Try.func7, Try.ntmps7
  go_wp2_with fail
  refine (begun_any w).mono ?_
  rintro e w1 ⟨rfl, hk⟩
  have K1 := Lib.hid hk; clear hk
  go_wp2_with fail
  refine (short_at a0 len0 cap0 l0 80 w1 (S0.out.keep K1.out (fun _ _ f => f)) E0.out (by decide) (by decide)).mono ?_
  rintro e w2 ⟨v, rfl, hO, hk, hf⟩
  have K2 := Lib.hid (K1.out.trans' hk)
  have hp80 : (l0.take (Int.toNat 80)).length ≤ 80 := by rw [List.length_take]; exact Nat.min_le_left _ _
  generalize l0.take (Int.toNat 80) = p at hO hp80
  obtain ⟨ao1, cp1, rfl, sp, bp⟩ := hO.slb
  have SP2 := Lib.hid sp
  clear hk hO hf sp bp
  go_wp2_with fail
  refine (short_at a1 len1 cap1 l1 80 w2 (S1.out.keep K2.out (fun _ _ f => f)) E1.out (by decide) (by decide)).mono ?_
  rintro e w3 ⟨v, rfl, hO, hk, hf⟩
  have K3 := Lib.hid (K2.out.trans' hk)
  have hq80 : (l1.take (Int.toNat 80)).length ≤ 80 := by rw [List.length_take]; exact Nat.min_le_left _ _
  generalize l1.take (Int.toNat 80) = q at hO hq80
  obtain ⟨ao2, cp2, rfl, sq, bq⟩ := hO.slb
  have SP := Lib.hid (SP2.out.keep hk (fun _ _ f => f))
  have SQ := Lib.hid sq
  clear hk hO hf sq bq SP2
  -- append(nil, a...), append(.., b...)
  have hnil := World.ownsRow_nil w3 0 5 1
  have hsrc := OwnB.src (P := Try.prog) SP.out rfl (t := 25) Try.underlying25
  go_wp2_with (at_builtin; refine wpList_app 25 25 5 (.int .u8 0) 1 1 Try.underlying25 infoU8 rfl (by decide) (by decide) rfl rfl rfl rfl hnil hsrc (by omega) ?_)
  intro ao3 cp3 w4 hown hgr hfr
  try simp only [Nat.zero_add, List.nil_append] at hown hfr
  have k34 : Keep NoF w3 w4 := (Keep.refl NoF w3).grown hgr (fun k _ e => by cases e)
  have f3 : ∀ k, (Value.slice ao3 p.length cp3).ownBlock = some k → w3.heap.size ≤ k := fun k e => by
    rcases hfr with h | h <;> rw [h] at e
    · cases e
    · injection e with e; omega
  have K4 := Lib.hid (K3.out.trans' k34)
  have hsrc2 := OwnB.src (P := Try.prog) (SQ.out.keep k34 (fun _ _ f => f)) rfl (t := 25) Try.underlying25
  have F3 := Lib.hid f3; have K34 := Lib.hid k34
  clear hnil hsrc hgr hfr f3 k34
  go_wp2_with (at_builtin; refine wpList_app 25 25 5 (.int .u8 0) 1 1 Try.underlying25 infoU8 rfl (by decide) (by decide) rfl rfl rfl rfl hown hsrc2 (by omega) ?_)
  intro ao4 cp4 w5 hown5 hgr5 hfr5
  have k35 : Keep NoF w3 w5 := K34.out.grown hgr5 (fun k hk e => by have := F3.out k e; omega)
  have O5 := OwnB.of_app hown5 rfl rfl rfl rfl
  obtain ⟨ao4', cp4', e4, s5, _⟩ := O5.slb
  injection e4 with e4 e5 e6
  subst e4 e6
  have K5 := Lib.hid (K3.out.trans' k35)
  have S5 := Lib.hid s5
  have K35 := Lib.hid k35
  clear hown hsrc2 hown5 hgr5 hfr5 O5 s5 k35 F3 K34 K4 e5
  have hcl : (p ++ q).length = p.length + q.length := List.length_append
  have HCL := Lib.hid hcl; clear hcl
  go_wp2_with fail
  refine (refsum_at ao4 _ cp4 (p ++ q) w5 S5.out HCL.out (by omega)).mono ?_
  rintro e w6 ⟨rfl, hk⟩
  have k36 := K35.out.trans' hk
  have K6 := Lib.hid (K5.out.trans' hk)
  have SP6 := Lib.hid (SP.out.keep k36 (fun _ _ f => f)); have SQ6 := Lib.hid (SQ.out.keep k36 (fun _ _ f => f))
  clear hk k36 K35 K5 S5 SP SQ K3 K2 K1
  have hpf : crcOf p = (p.foldl crcByte 4294967295) ^^^ 4294967295 := by rw [crcOf, crcOn, Nat.zero_xor]
  have HPF := Lib.hid hpf; clear hpf
  have hpq : crcOn (crcOf p) q = crcOf (p ++ q) := crcOn_of p q
  have HPQ := Lib.hid hpq; clear hpq
  generalize crcOf (p ++ q) = cpq at HPQ ⊢
  go_wp2_with fail
  go_loop [7, 8] (fun sv i => ∃ k : Nat, k ≤ p.length ∧ i = .int .i64 k ∧ sv = .int .u32 (((p.take k).foldl crcByte 4294967295 : Nat) : Int)) (fun _ i => p.length - (intOf i).toNat)
  case atStart => exact ⟨0, Nat.zero_le _, rfl, rfl⟩
  case round =>
    obtain ⟨k, hk, rfl, rfl⟩ := hrel
    have hb := crcFold_lt (p.take k) (s := 4294967295) (by decide)
    by_cases hlt : k < p.length
    · obtain ⟨g, off, rfl, hcell⟩ := SP6.out.2.2 k hlt
      simp only [bval] at hcell
      have hn := foldl_take_succ p 4294967295 k hlt
      have Hn := Lib.hid hn; clear hn
      generalize (p.take k).foldl crcByte 4294967295 = s at hb Hn ⊢
      go_wp2_with fail
      refine (bits_any s p[k] _ hb).mono ?_
      rintro e w' ⟨rfl, rfl⟩
      go_wp2_with fail
      go_round
      case rel => exact ⟨k + 1, by omega, by go_num, by rw [Hn.out]⟩
      case measure => simp [intOf]; omega
    · obtain hk2 : k = p.length := by omega
      have ht : p.take k = p := by rw [hk2]; exact List.take_length
      rw [ht] at hb ⊢
      clear hk2 ht
      have h1 : bits .xor .u32 IntKind.u32.max ((p.foldl crcByte 4294967295 : Nat) : Int) = (crcOf p : Int) := by
        rw [HPF.out, Nat.xor_comm]; exact xor_u32 4294967295 _ (by decide) hb
      have hnil := World.ownsRow_nil w6 0 5 1
      have hsrc := OwnB.src (P := Try.prog) SP6.out rfl (t := 25) Try.underlying25
      go_wp2_with (at_builtin; refine wpList_app 25 25 5 (.int .u8 0) 1 1 Try.underlying25 infoU8 rfl (by decide) (by decide) rfl rfl rfl rfl hnil hsrc (by omega) ?_)
      intro ao3 cp3 w7 hown hgr hfr
      try simp only [Nat.zero_add, List.nil_append] at hown hfr
      have k34 : Keep NoF w6 w7 := (Keep.refl NoF w6).grown hgr (fun k _ e => by cases e)
      have f3 : ∀ k, (Value.slice ao3 p.length cp3).ownBlock = some k → w6.heap.size ≤ k := fun k e => by
        rcases hfr with h | h <;> rw [h] at e
        · cases e
        · injection e with e; omega
      have hsrc2 := OwnB.src (P := Try.prog) (SQ6.out.keep k34 (fun _ _ f => f)) rfl (t := 25) Try.underlying25
      have F3 := Lib.hid f3; have K34 := Lib.hid k34
      clear hnil hsrc hgr hfr f3 k34
      go_wp2_with (at_builtin; refine wpList_app 25 25 5 (.int .u8 0) 1 1 Try.underlying25 infoU8 rfl (by decide) (by decide) rfl rfl rfl rfl hown hsrc2 (by omega) ?_)
      intro ao5 cp5 w8 hown5 hgr5 hfr5
      have k35 : Keep NoF w6 w8 := K34.out.grown hgr5 (fun k hk e => by have := F3.out k e; omega)
      have O5 := OwnB.of_app hown5 rfl rfl rfl rfl
      obtain ⟨ao4', cp4', e4, s5, _⟩ := O5.slb
      injection e4 with e4 e5 e6
      subst e4 e6
      have K8 := Lib.hid (K6.out.trans' k35)
      have S8 := Lib.hid s5
      have SP8 := Lib.hid (SP6.out.keep k35 (fun _ _ f => f)); have SQ8 := Lib.hid (SQ6.out.keep k35 (fun _ _ f => f))
      clear hown hsrc2 hown5 hgr5 hfr5 O5 s5 k35 F3 K34 e5
      have hcpq : crcOf (p ++ q) = cpq := by rw [← HPQ.out, crcOn_of]
      have HC := Lib.hid hcpq; clear hcpq
      go_wp2_with fail
      refine (of_at ao5 _ cp5 (p ++ q) w8 S8.out HCL.out).mono ?_
      rintro e w' ⟨rfl, rfl⟩
      rw [HC.out]
      go_wp2_with fail
      refine (of_at ao1 _ cp1 p w8 SP8.out rfl).mono ?_
      rintro e w' ⟨rfl, rfl⟩
      go_wp2_with fail
      refine (on_at (crcOf p) ao2 _ cp2 q w8 (crcOf_lt p) SQ8.out rfl).mono ?_
      rintro e w' ⟨rfl, rfl⟩
      rw [HPQ.out]
      go_wp2_with fail
      refine (of_at ao1 _ cp1 p w8 SP8.out rfl).mono ?_
      rintro e w' ⟨rfl, rfl⟩
      go_wp2_with fail
      refine (of_at ao1 _ cp1 p w8 SP8.out rfl).mono ?_
      rintro e w' ⟨rfl, rfl⟩
      go_wp2_with fail
      refine (refsum_at ao1 _ cp1 p w8 SP8.out rfl (by omega)).mono ?_
      rintro e w9 ⟨rfl, hk⟩
      have K9 := Lib.hid (K8.out.trans' hk); clear hk
      go_wp2_with fail
      go_ret
      exact ⟨rfl, K9.out⟩

set_option linter.unusedVariables false
set_option maxRecDepth 100000 in
theorem lifted (os : Os) (started : os.Started) (H : Type) (enc : TypeId × Value → H) :
    ReturnsInHanded {} Try.checked os 7 .any (Rows.sumAllSpec.pre6 enc Try.prog Try.f7 Rows.sumAllRow.domain false) (Rows.sumAllSpec.post enc Try.prog Try.f7 false true false false) := by
  refine returnsInHanded_of_change (C := Try.checked) own started (by kernel_rfl) Try.func7
    (ChangeSpec.witness6 (enc := enc) (C := Try.checked) false ⟨#[], #[.slice none 0 0, .slice none 0 0], []⟩ 8 (by kernel_rfl) (by kernel_rfl) (by kernel_rfl) (by kernel_rfl)) ?_
  intro W base args ds gs before hval0 hW hcnd _
  have hval : ∀ (j : Nat) t v, Try.f7.params[j]? = some t → args[j]? = some v → Value.okWide Try.prog W .any base t v := hval0
  have hW' := hW
  obtain ⟨p, q, hA0, hV, rfl, hfz, hnd⟩ := hW
  have hA : DataW.TrodAll enc Try.prog W 0 (fun _ => true) true Try.f7.params.toList args.toList ds p := hA0
  rw [Try.params7] at hA hval
  obtain ⟨v0, vs0, d0, ds0, p0, q0, hargs, rfl, rfl, h0, r0⟩ := trodAll_cons hA
  obtain ⟨v1, vs1, d1, ds1, p1, q1, rfl, rfl, rfl, h1, r1⟩ := trodAll_cons r0
  obtain ⟨rfl, rfl, rfl⟩ := trodAll_nil r1
  obtain rfl : args = #[v0, v1] := by cases args; simp_all
  obtain ⟨rfl, rfl⟩ := trodVars_none hV
  obtain ⟨a0, len0, cap0, rfl⟩ := okWide_slice Try.underlying25 (hval 0 25 v0 rfl rfl)
  have k0 := h0
  have lt0 : ∀ x ∈ p0, x.block < W.heap.size := by obtain ⟨m, hm⟩ := k0; exact DataW.trod_lt m _ _ _ hm
  obtain ⟨z0, w0⟩ : ∃ zs, IsRow .u8 W a0 len0 cap0 zs := by
    obtain ⟨fuel, hf⟩ := h0
    rcases open_ints Try.underlying25 Try.underlying5 (by kernel_rfl) hf with ⟨hcs, _⟩ | ⟨x, l, c, zs, hcs, _, hl, hm, hz, _, hcell, hwz⟩
    · simp [Value.cells] at hcs
      obtain ⟨rfl, rfl, rfl⟩ := hcs
      exact ⟨[], .inl ⟨rfl, rfl, rfl, rfl⟩⟩
    · simp [Value.cells] at hcs
      obtain ⟨rfl, rfl, rfl⟩ := hcs
      exact ⟨zs, .inr ⟨_, rfl, hl, hm, by simpa using hz, hcell, hwz⟩⟩
  obtain ⟨a1, len1, cap1, rfl⟩ := okWide_slice Try.underlying25 (hval 1 25 v1 rfl rfl)
  have k1 := h1
  have lt1 : ∀ x ∈ p1, x.block < W.heap.size := by obtain ⟨m, hm⟩ := k1; exact DataW.trod_lt m _ _ _ hm
  obtain ⟨z1, w1⟩ : ∃ zs, IsRow .u8 W a1 len1 cap1 zs := by
    obtain ⟨fuel, hf⟩ := h1
    rcases open_ints Try.underlying25 Try.underlying5 (by kernel_rfl) hf with ⟨hcs, _⟩ | ⟨x, l, c, zs, hcs, _, hl, hm, hz, _, hcell, hwz⟩
    · simp [Value.cells] at hcs
      obtain ⟨rfl, rfl, rfl⟩ := hcs
      exact ⟨[], .inl ⟨rfl, rfl, rfl, rfl⟩⟩
    · simp [Value.cells] at hcs
      obtain ⟨rfl, rfl, rfl⟩ := hcs
      exact ⟨zs, .inr ⟨_, rfl, hl, hm, by simpa using hz, hcell, hwz⟩⟩
  clear hA0 hval0
  refine (walk W a0 len0 cap0 z0 w0 a1 len1 cap1 z1 w1).mono fun e W' ⟨he, hk⟩ => ?_
  subst he
  have bel := Keep.below hk
  exact ⟨_, rfl, _, _, _, [], _, [], hW', trodAll_mk1 (shut_bool Try.underlying4 _), (trodAll_cons_mk (Below.trod laidOut (by kernel_rfl) (of_decide_eq_true (by kernel_rfl)) k0 bel lt0) (trodAll_cons_mk (Below.trod laidOut (by kernel_rfl) (of_decide_eq_true (by kernel_rfl)) k1 bel lt1) trodAll_mk0)), rfl, bel.frame _, fun h => by cases h⟩

theorem over : Rows.sumAllRow.holds Try.pinned (OpenSpec.ofChange Rows.sumAllSpec) :=
  OpenClaim.holds_of_wide 7 Try.f7 rfl rfl rfl rfl rfl rfl rfl ⟨rfl, rfl, rfl, rfl, rfl⟩ rfl rfl rfl rfl rfl (by kernel_rfl) Try.func7 (by kernel_rfl)
    (of_decide_eq_true (by kernel_rfl)) (by unfold Func.isWrapper; rw [if_neg (of_decide_eq_false (by kernel_rfl))]; exact ⟨rfl, rfl⟩)
    (fun os started H enc _ => lifted os started H enc)

/-- The statement. -/
theorem proved : Rows.SumAllSaid := over
#print axioms proved
end Go.Proofs.Ytdipknkajmoldaa.sumAll
