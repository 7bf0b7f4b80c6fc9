/- ByteParts: the law returns true and changes nothing that was there. No conditions. -/
import Derived.Test.YtdipknkajmoldaaLawBase
import Derived.Test.YtdipknkajmoldaaOps
import Derived.Test.YtdipknkajmoldaaRows
import Derived.WalkKit
import Derived.ProofKit
import Derived.OpenShut
import Derived.ShutString
import Derived.ChangeOld
import Derived.Below
namespace Go.Proofs.Ytdipknkajmoldaa.byteParts
open Go Go.ChangeShapes Go.WideShapes Go.ChangeAt Go.RowKit
open Go.ChangeMaps (open_string shut_string)

theorem own : ownKnob Try.prog.godebug = none := by kernel_rfl
theorem laidOut : laidOutB Try.prog = true := by kernel_rfl

theorem open_arg0 {H : Type} {enc : TypeId × Value → H} {a : Option Addr} {len cap : Nat} {d : DataW H} {p : List MemPlace} (W : World) (_base : Nat)
    (h : DataW.Trod enc Try.prog W 0 (fun _ => true) true 22 (.slice a len cap) d p) : ∃ z, IsOps W a len cap z := open_ops h
theorem open_arg1 {H : Type} {enc : TypeId × Value → H} {a : Option Addr} {len cap : Nat} {d : DataW H} {p : List MemPlace} (W : World) (_base : Nat)
    (h : DataW.Trod enc Try.prog W 0 (fun _ => true) true 22 (.slice a len cap) d p) : ∃ z, IsOps W a len cap z := open_ops h

/-- Three writers beside one another. -/
structure Thr (w wr : World) (A : Nat) (ga : Option Nat) (la : List UInt8) (B : Nat) (gb : Option Nat) (lb : List UInt8) (C : Nat) (gc : Option Nat) (lc : List UInt8) : Prop where
  a : OutR wr A ga la
  b : OutR wr B gb lb
  c : OutR wr C gc lc
  ab : Apart A ga B gb
  ac : Apart A ga C gc
  bc : Apart B gb C gc
  keep : Keep NoF w wr
  na : w.heap.size ≤ A ∧ ∀ k, ga = some k → w.heap.size ≤ k
  nb : w.heap.size ≤ B ∧ ∀ k, gb = some k → w.heap.size ≤ k
  nc : w.heap.size ≤ C ∧ ∀ k, gc = some k → w.heap.size ≤ k

theorem new_of {w wr : World} {g g1 : Option Nat} (hk : w.heap.size ≤ wr.heap.size) (h : ∀ k, g = some k → w.heap.size ≤ k) (h1 : g1 = g ∨ ∀ k, g1 = some k → wr.heap.size ≤ k) : ∀ k, g1 = some k → w.heap.size ≤ k := by
  intro k hk2
  rcases h1 with rfl | h1
  · exact h k hk2
  · have := h1 k hk2; omega

theorem Thr.rot {w wr : World} {A : Nat} {ga : Option Nat} {la : List UInt8} {B : Nat} {gb : Option Nat} {lb : List UInt8} {C : Nat} {gc : Option Nat} {lc : List UInt8}
    (h : Thr w wr A ga la B gb lb C gc lc) : Thr w wr B gb lb C gc lc A ga la :=
  ⟨h.b, h.c, h.a, h.bc, h.ab.symm, h.ac.symm, h.keep, h.nb, h.nc, h.na⟩
theorem Thr.step {w wr w2 : World} {A : Nat} {ga : Option Nat} {la la2 : List UInt8} {B : Nat} {gb : Option Nat} {lb : List UInt8} {C : Nat} {gc : Option Nat} {lc : List UInt8}
    (h : Thr w wr A ga la B gb lb C gc lc) (hs : OutS wr A ga la2 w2) : ∃ ga2, Thr w w2 A ga2 la2 B gb lb C gc lc := by
  obtain ⟨g1, hR, hk, hg⟩ := hs
  refine ⟨g1, hR, h.ab.keep hk h.b, h.ac.keep hk h.c, h.ab.step hg h.b.lt.1 h.b.lt.2.1, h.ac.step hg h.c.lt.1 h.c.lt.2.1, h.bc, ?_, ⟨h.na.1, new_of h.keep.size h.na.2 hg⟩, h.nb, h.nc⟩
  exact h.keep.trans hk (fun _ _ f => f) (fun i hi f => by
    rcases f with f | f
    · have := h.na.1; omega
    · have := h.na.2 i f; omega)

theorem outr_new (w : World) (z : Nat) (hz : w.heap.size = z) : OutR (w.alloc (.cells #[.slice none 0 0] 27)) z none [] := by subst hz; exact out_new w

set_option maxHeartbeats 8000000 in
theorem walk (w : World) (a0 : Option Addr) (len0 cap0 : Nat) (z : Nat → OpV) (h0 : IsOps w a0 len0 cap0 z) (a1 : Option Addr) (len1 cap1 : Nat) (y : Nat → OpV) (h1 : IsOps w a1 len1 cap1 y) :
    Calls Try.prog 10 #[.slice a0 len0 cap0, .slice a1 len1 cap1] w fun e w' => e = .returned (.bool true) ∧ Keep NoF w w' := by
  have H0 := Lib.hid h0
  have H1 := Lib.hid h1
  have hl := h0.1
  have hm := h0.2.1
  have hl1 := h1.1
  have hm1 := h1.2.1
  unfold maxLen at hm hm1
  have hlen : len0 ≤ 9223372036854775807 := by omega
  have hlen1 : len1 ≤ 9223372036854775807 := by omega
  clear h0 hl hm h1 hl1 hm1
  go_enter Try.func10, Try.ntmps10
  go_wp2_with fail
  refine (begun_any w).mono ?_
  rintro e w1 ⟨rfl, hk⟩
  have K1 := Lib.hid hk; clear hk
  go_wp2_with fail
  have hT : Thr w (((w1.alloc (.cells #[.slice none 0 0] 27)).alloc (.cells #[.slice none 0 0] 27)).alloc (.cells #[.slice none 0 0] 27)) w1.heap.size none [] (w1.heap.size + 1) none [] (w1.heap.size + 2) none [] := by
    have hs := K1.out.size
    refine ⟨((outr_new w1 _ rfl).alloc _).alloc _, (outr_new _ _ (by simp)).alloc _, outr_new _ _ (by simp), ⟨by omega, nofun, nofun, nofun⟩, ⟨by omega, nofun, nofun, nofun⟩, ⟨by omega, nofun, nofun, nofun⟩, ((K1.out.alloc _).alloc _).alloc _, ⟨hs, nofun⟩, ⟨by omega, nofun⟩, ⟨by omega, nofun⟩⟩
  generalize w1.heap.size = A at hT ⊢
  have HT0 := Lib.hid hT; clear hT K1
  go_loopw [9] (fun iv wr => ∃ k : Nat, k ≤ len0 ∧ k ≤ 15 ∧ iv = .int .i64 k ∧ ∃ ga gc, Thr w wr A ga (opsFrom z 0 k) (A + 1) none [] (A + 2) gc (opsFrom z 0 k)) (fun iv _ => len0 - (intOf iv).toNat)
  case atStart => exact ⟨0, Nat.zero_le _, by omega, rfl, none, none, by rw [opsFrom_self]; exact HT0.out⟩
  case round =>
    obtain ⟨k, hk, hk15, rfl, ga, gc, hT⟩ := hrel
    have HT := Lib.hid hT; clear hT HT0
    have hln := opsFrom_length z 0 k (Nat.zero_le _)
    have HLn : Hid ((opsFrom z 0 k).length ≤ 5000) := Lib.hid (by omega)
    clear hln
    by_cases hgo : k < len0 ∧ k < 15
    · obtain ⟨hlt, h15⟩ := hgo
      obtain ⟨hX, gk, ok, rfl, c0, c1, c2⟩ := (H0.out.keep HT.out.keep).2.2 k hlt
      have HX := Lib.hid hX; clear hX
      have hj1 : (k : Int) < len0 := by omega
      have hj2 : (k : Int) < 15 := by omega
      go_wp2_with fail
      refine (puts_any A ga _ (z k) HX.out _ HT.out.a (by have := HLn.out; omega)).mono ?_
      rintro e w2 ⟨rfl, hs⟩
      obtain ⟨ga2, hT2⟩ := HT.out.step hs
      rw [← opsFrom_snoc z 0 k (Nat.zero_le _)] at hT2
      obtain ⟨_, gk2, ok2, e2, d0, d1, d2⟩ := (H0.out.keep hT2.keep).2.2 k hlt
      injection e2 with e2; injection e2 with e2 e3; subst e2 e3
      have HT2 := Lib.hid hT2
      clear hs hT2 c0 c1 c2
      go_wp2_with fail
      refine (puts_any (A + 2) gc _ (z k) HX.out _ HT2.out.c (by have := HLn.out; omega)).mono ?_
      rintro e w3 ⟨rfl, hs⟩
      obtain ⟨gc2, hT3⟩ := HT2.out.rot.rot.step hs
      rw [← opsFrom_snoc z 0 k (Nat.zero_le _)] at hT3
      have HT3 := Lib.hid hT3.rot
      clear hs hT3 d0 d1 d2
      go_wp2_with fail
      go_roundw
      case rel => exact ⟨k + 1, by omega, by omega, by go_num, ga2, gc2, HT3.out⟩
      case measure => simp [intOf]; omega
    · have hx : (len0 : Int) ≤ k ∨ ((k : Int) < len0 ∧ (15 : Int) ≤ k) := by omega
      generalize opsFrom z 0 k = la at HT HLn
      rcases hx with hx | ⟨hx1, hx2⟩
      all_goals
        clear hgo
        go_wp2_with fail
        go_loopw [10] (fun iv wx => ∃ j : Nat, j ≤ len1 ∧ j ≤ 15 ∧ iv = .int .i64 j ∧ ∃ gb gc, Thr w wx A ga la (A + 1) gb (opsFrom y 0 j) (A + 2) gc (la ++ opsFrom y 0 j)) (fun iv _ => len1 - (intOf iv).toNat)
        case atStart => exact ⟨0, Nat.zero_le _, by omega, rfl, none, gc, by rw [opsFrom_self, List.append_nil]; exact HT.out⟩
        case round =>
          obtain ⟨j, hj, hj15, rfl, gb, gc, hT⟩ := hrel
          have HTj := Lib.hid hT; clear hT HT
          have hln := opsFrom_length y 0 j (Nat.zero_le _)
          have HLm : Hid ((opsFrom y 0 j).length ≤ 5000) := Lib.hid (by omega)
          clear hln
          by_cases hgo : j < len1 ∧ j < 15
          · obtain ⟨hlt, h15⟩ := hgo
            obtain ⟨hX, gk, ok, rfl, c0, c1, c2⟩ := (H1.out.keep HTj.out.keep).2.2 j hlt
            have HX := Lib.hid hX; clear hX
            have hj1 : (j : Int) < len1 := by omega
            have hj2 : (j : Int) < 15 := by omega
            go_wp2_with fail
            refine (puts_any (A + 1) gb _ (y j) HX.out _ HTj.out.b (by have := HLm.out; omega)).mono ?_
            rintro e w2 ⟨rfl, hs⟩
            obtain ⟨gb2, hT2⟩ := HTj.out.rot.step hs
            rw [← opsFrom_snoc y 0 j (Nat.zero_le _)] at hT2
            obtain ⟨_, gk2, ok2, e2, d0, d1, d2⟩ := (H1.out.keep hT2.keep).2.2 j hlt
            injection e2 with e2; injection e2 with e2 e3; subst e2 e3
            have HT2 := Lib.hid hT2
            clear hs hT2 c0 c1 c2
            go_wp2_with fail
            refine (puts_any (A + 2) gc _ (y j) HX.out _ HT2.out.b (by have := HLn.out; have := HLm.out; simp; omega)).mono ?_
            rintro e w3 ⟨rfl, hs⟩
            obtain ⟨gc2, hT3⟩ := HT2.out.rot.step hs
            rw [List.append_assoc, ← opsFrom_snoc y 0 j (Nat.zero_le _)] at hT3
            have HT3 := Lib.hid hT3.rot
            clear hs hT3 d0 d1 d2
            go_wp2_with fail
            go_roundw
            case rel => exact ⟨j + 1, by omega, by omega, by go_num, gb2, gc2, HT3.out⟩
            case measure => simp [intOf]; omega
          · have hx : (len1 : Int) ≤ j ∨ ((j : Int) < len1 ∧ (15 : Int) ≤ j) := by omega
            generalize opsFrom y 0 j = lb at HTj HLm
            obtain ⟨⟨va, hva, _⟩, ⟨vb, hvb, _⟩, ⟨vc, hvc, _⟩, _, _, _, hkk, _, _, _⟩ := HTj.out
            obtain ⟨aoa, cpa, rfl, sla, _⟩ := hva.slb
            obtain ⟨aob, cpb, rfl, slb, _⟩ := hvb.slb
            obtain ⟨aoc, cpc, rfl, slc, _⟩ := hvc.slb
            have ca := cell_of_heap hva.1 0
            have cb := cell_of_heap hvb.1 0
            have cc := cell_of_heap hvc.1 0
            simp at ca cb
            have cc2 : wr.cell? ⟨A + 2, 0, none⟩ = some (.slice aoc (la ++ lb).length cpc) := by rw [cc]; rfl
            have cva := run_convert_SlB (P := Try.prog) (sla.keep (Keep.refl NoF wr).drew (fun _ _ f => f)) (src := 25) (dst := 9) Try.underlying25 Try.underlying5 Try.underlying9
            have cvb := run_convert_SlB (P := Try.prog) (slb.keep (Keep.refl NoF wr).drew (fun _ _ f => f)) (src := 25) (dst := 9) Try.underlying25 Try.underlying5 Try.underlying9
            have cvc := run_convert_SlB (P := Try.prog) (slc.keep (Keep.refl NoF wr).drew (fun _ _ f => f)) (src := 25) (dst := 9) Try.underlying25 Try.underlying5 Try.underlying9
            obtain ⟨na, hna⟩ : ∃ n, la.length = n := ⟨_, rfl⟩
            obtain ⟨nb, hnb⟩ : ∃ n, lb.length = n := ⟨_, rfl⟩
            obtain ⟨lc, hlc⟩ : ∃ l, la ++ lb = l := ⟨_, rfl⟩
            rw [hlc] at cc2 cvc
            obtain ⟨nc, hnc⟩ : ∃ n, lc.length = n := ⟨_, rfl⟩
            rw [hna] at ca cva
            rw [hnb] at cb cvb
            rw [hnc] at cc2 cvc
            have hcat : bstr la ++ bstr lb = bstr lc := by rw [← hlc]; apply ByteArray.ext; simp [bstr]
            have hsz : (bstr la).size + (bstr lb).size ≤ 9223372036854775807 := by rw [bstr_size, bstr_size]; have := HLn.out; have := HLm.out; omega
            have HKK := Lib.hid hkk
            clear hkk hva hvb hvc sla slb slc cc hna hnb hlc hnc hgo
            rcases hx with hx | ⟨hx1, hx2⟩
            all_goals
              go_wp2_with fail
              go_region
              go_wp2_with fail
              go_ret
              exact ⟨rfl, HKK.out.drew⟩

set_option linter.unusedVariables false
set_option maxRecDepth 100000 in
theorem lifted (os : Os) (started : os.Started) (H : Type) (enc : TypeId × Value → H) :
    ReturnsInHanded {} Try.checked os 10 .any (Rows.bytePartsSpec.pre6 enc Try.prog Try.f10 Rows.bytePartsRow.domain false) (Rows.bytePartsSpec.post enc Try.prog Try.f10 false true false false) := by
  refine returnsInHanded_of_change (C := Try.checked) own started (by kernel_rfl) Try.func10
    (ChangeSpec.witness6 (enc := enc) (C := Try.checked) false ⟨#[], #[.slice none 0 0, .slice none 0 0], []⟩ 8 (by kernel_rfl) (by kernel_rfl) (by kernel_rfl) (by kernel_rfl)) ?_
  intro W base args ds gs before hval0 hW hcnd _
  have hval : ∀ (j : Nat) t v, Try.f10.params[j]? = some t → args[j]? = some v → Value.okWide Try.prog W .any base t v := hval0
  have hW' := hW
  obtain ⟨p, q, hA0, hV, rfl, hfz, hnd⟩ := hW
  have hA : DataW.TrodAll enc Try.prog W 0 (fun _ => true) true Try.f10.params.toList args.toList ds p := hA0
  rw [Try.params10] at hA hval
  obtain ⟨v0, vs0, d0, ds0, p0, q0, hargs, rfl, rfl, h0, r0⟩ := trodAll_cons hA
  obtain ⟨v1, vs1, d1, ds1, p1, q1, rfl, rfl, rfl, h1, r1⟩ := trodAll_cons r0
  obtain ⟨rfl, rfl, rfl⟩ := trodAll_nil r1
  obtain rfl : args = #[v0, v1] := by cases args; simp_all
  obtain ⟨rfl, rfl⟩ := trodVars_none hV
  obtain ⟨a0, len0, cap0, rfl⟩ := okWide_slice Try.underlying22 (hval 0 22 v0 rfl rfl)
  have k0 := h0
  have lt0 : ∀ x ∈ p0, x.block < W.heap.size := by obtain ⟨m, hm⟩ := k0; exact DataW.trod_lt m _ _ _ hm
  obtain ⟨z0, w0⟩ := open_arg0 W base h0
  obtain ⟨a1, len1, cap1, rfl⟩ := okWide_slice Try.underlying22 (hval 1 22 v1 rfl rfl)
  have k1 := h1
  have lt1 : ∀ x ∈ p1, x.block < W.heap.size := by obtain ⟨m, hm⟩ := k1; exact DataW.trod_lt m _ _ _ hm
  obtain ⟨z1, w1⟩ := open_arg1 W base h1
  clear hA0 hval0
  refine (walk W a0 len0 cap0 z0 w0 a1 len1 cap1 z1 w1).mono fun e W' ⟨he, hk⟩ => ?_
  subst he
  have bel := Keep.below hk
  exact ⟨_, rfl, _, _, _, [], _, [], hW', trodAll_mk1 (shut_bool Try.underlying4 _), (trodAll_cons_mk (Below.trod laidOut (by kernel_rfl) (of_decide_eq_true (by kernel_rfl)) k0 bel lt0) (trodAll_cons_mk (Below.trod laidOut (by kernel_rfl) (of_decide_eq_true (by kernel_rfl)) k1 bel lt1) trodAll_mk0)), rfl, bel.frame _, fun h => by cases h⟩

theorem over : Rows.bytePartsRow.holds Try.pinned (OpenSpec.ofChange Rows.bytePartsSpec) :=
  OpenClaim.holds_of_wide 10 Try.f10 rfl rfl rfl rfl rfl rfl rfl ⟨rfl, rfl, rfl, rfl, rfl⟩ rfl rfl rfl rfl rfl (by kernel_rfl) Try.func10 (by kernel_rfl)
    (of_decide_eq_true (by kernel_rfl)) (by unfold Func.isWrapper; rw [if_neg (of_decide_eq_false (by kernel_rfl))]; exact ⟨rfl, rfl⟩)
    (fun os started H enc _ => lifted os started H enc)

/-- The statement. -/
theorem proved : Rows.BytePartsSaid := over
#print axioms proved
end Go.Proofs.Ytdipknkajmoldaa.byteParts
