/- ByteAll: the law returns true and changes nothing that was there. No conditions. -/
import Derived.Test.YtdipknkajmoldaaLawBase
import Derived.Test.YtdipknkajmoldaaOps
import Derived.Test.YtdipknkajmoldaaRows
import Derived.WalkKit
import Derived.ProofKit
import Derived.OpenShut
import Derived.ShutString
import Derived.ChangeOld
import Derived.Below
namespace Go.Proofs.Ytdipknkajmoldaa.byteAll
open Go Go.ChangeShapes Go.WideShapes Go.ChangeAt Go.RowKit
open Go.ChangeMaps (open_string shut_string)

theorem own : ownKnob Try.prog.godebug = none := by kernel_rfl
theorem laidOut : laidOutB Try.prog = true := by kernel_rfl

theorem open_arg0 {H : Type} {enc : TypeId × Value → H} {a : Option Addr} {len cap : Nat} {d : DataW H} {p : List MemPlace} (W : World) (_base : Nat)
    (h : DataW.Trod enc Try.prog W 0 (fun _ => true) true 22 (.slice a len cap) d p) : ∃ z, IsOps W a len cap z := open_ops h

structure AllI (w wr : World) (P : Nat) (g : Option Nat) (v : Value) (l : List UInt8) : Prop where
  out : OutR wr P g l
  own : OwnB wr v l
  keep : Keep NoF w wr
  pn : w.heap.size ≤ P
  gn : ∀ j, g = some j → w.heap.size ≤ j
  vn : ∀ j, v.ownBlock = some j → w.heap.size ≤ j
  vp : ∀ j, v.ownBlock = some j → j ≠ P ∧ g ≠ some j

theorem AllI.own2 {w wr w2 : World} {P : Nat} {g : Option Nat} {v : Value} {l : List UInt8} (h : AllI w wr P g v l) (hk : Keep (OF P g) wr w2) : OwnB w2 v l :=
  h.own.keep hk (fun j hj f => by
    rcases f with f | f
    · exact (h.vp j hj).1 f
    · exact (h.vp j hj).2 f)

theorem all_round {w wr w2 w3 w4 : World} {P : Nat} {g g1 : Option Nat} {v v4 : Value} {l b : List UInt8} (h : AllI w wr P g v l) (h1 : OutR w2 P g1 (l ++ b)) (hk : Keep (OF P g) wr w2)
    (hg : g1 = g ∨ ∀ k, g1 = some k → wr.heap.size ≤ k) (h5 : Keep NoF w2 w3) (h4 : OwnB w4 v4 (l ++ b)) (g4 : w3.grownBy w4 v.ownBlock) (f4 : v4.ownBlock = v.ownBlock ∨ v4.ownBlock = some w3.heap.size) :
    AllI w w4 P g1 v4 (l ++ b) := by
  have hPl := h.out.lt
  have hVl := h.own.lt
  have hs := h.keep.size
  have hs1 := hk.size
  have hs2 := h5.size
  have hk2 : Keep NoF w w2 := h.keep.trans hk (fun _ _ f => f) (fun i hi f => by
    rcases f with f | f
    · have := h.pn; omega
    · have := h.gn i f; omega)
  have hk4 : Keep NoF w w4 := (hk2.trans' h5).grown g4 (fun k hk e => by have := h.vn k e; omega)
  have hn : ∀ j, v.ownBlock = some j → j ≠ P ∧ g1 ≠ some j := fun j hj => ⟨(h.vp j hj).1, fun e => by
    rcases hg with rfl | hg
    · exact (h.vp j hj).2 e
    · have := hg j e; have := hVl j hj; omega⟩
  refine ⟨?_, h4, hk4, h.pn, ?_, ?_, ?_⟩
  · refine (h1.keep h5 (fun f => f) (fun _ _ f => f)).keep (F := fun k => v.ownBlock = some k) ((Keep.refl _ _).grown g4 (fun k _ e => e)) ?_ ?_
    · intro e; exact (hn P e).1 rfl
    · intro k hk e; exact (hn k e).2 hk
  · intro j hj
    rcases hg with rfl | hg
    · exact h.gn j hj
    · have := hg j hj; omega
  · intro j hj
    rcases f4 with f | f <;> rw [f] at hj
    · exact h.vn j hj
    · injection hj with hj; omega
  · intro j hj
    rcases f4 with f | f <;> rw [f] at hj
    · exact hn j hj
    · injection hj with hj
      have h1l := h1.lt
      refine ⟨by omega, fun e => ?_⟩
      have := h1l.2.1 j e
      omega

theorem AllI.alloc {w wr : World} {P : Nat} {g : Option Nat} {v : Value} {l : List UInt8} (h : AllI w wr P g v l) (o : Obj) : AllI w (wr.alloc o) P g v l :=
  ⟨h.out.alloc o, h.own.keep ((Keep.refl NoF wr).alloc o) (fun _ _ f => f), h.keep.alloc o, h.pn, h.gn, h.vn, h.vp⟩
theorem AllI.fresh {w wr : World} {P : Nat} {g : Option Nat} {v : Value} {l : List UInt8} (h : AllI w wr P g v l) : ¬ OF P g wr.heap.size := by
  have := h.out.lt
  rintro (e | e)
  · omega
  · have := this.2.1 _ e; omega

theorem all_len (l : List UInt8) (x : OpV) (hl : l.length ≤ 5000) : Hid (l.length + (opB x).length ≤ 10000) := by
  have := (opB_length x).1
  exact Lib.hid (by omega)

set_option maxHeartbeats 8000000 in
theorem walk (w : World) (a0 : Option Addr) (len0 cap0 : Nat) (z : Nat → OpV) (h0 : IsOps w a0 len0 cap0 z) :
    Calls Try.prog 3 #[.slice a0 len0 cap0] w fun e w' => e = .returned (.bool true) ∧ Keep NoF w w' := by
  have H0 := Lib.hid h0
  have hl := h0.1
  have hm := h0.2.1
  unfold maxLen at hm
  have hlen : len0 ≤ 9223372036854775807 := by omega
  clear h0 hl hm
  go_enter Try.func3, Try.ntmps3
  go_wp2_with fail
  refine (begun_any w).mono ?_
  rintro e w1 ⟨rfl, hk⟩
  have K1 := Lib.hid hk; clear hk
  go_wp2_with fail
  have hI : AllI w (w1.alloc (.cells #[.slice none 0 0] 27)) w1.heap.size none (.slice none 0 0) [] :=
    { out := out_new w1, own := OwnB.nil _, keep := K1.out.alloc _, pn := K1.out.size, gn := nofun, vn := nofun, vp := nofun }
  obtain ⟨P, hP⟩ : ∃ P, w1.heap.size = P := ⟨_, rfl⟩
  rw [hP] at hI ⊢
  clear hP
  have HI0 := Lib.hid hI; clear hI
  go_loopw [5, 6] (fun wv iv wr => ∃ k : Nat, k ≤ len0 ∧ k ≤ 30 ∧ iv = .int .i64 k ∧ ∃ g, AllI w wr P g wv (opsFrom z 0 k)) (fun _ iv _ => len0 - (intOf iv).toNat)
  case atStart => exact ⟨0, by omega, by omega, rfl, none, by rw [opsFrom_self]; exact HI0.out⟩
  case round =>
    obtain ⟨k, hk, hk30, rfl, g, hI⟩ := hrel
    have HI := Lib.hid hI
    clear HI0 hI
    by_cases hgo : k < len0 ∧ k < 30
    · obtain ⟨hlt, h30⟩ := hgo
      obtain ⟨hX, gk, ok, rfl, c0, c1, c2⟩ := (H0.out.keep HI.out.keep).2.2 k hlt
      have HX := Lib.hid hX; clear hX
      have hlt2 : (k : Int) < len0 := by omega
      have h302 : (k : Int) < 30 := by omega
      have HLn : Hid ((opsFrom z 0 k).length ≤ 5000) := by have := opsFrom_length z 0 k (Nat.zero_le _); exact Lib.hid (by omega)
      obtain ⟨x, hzx⟩ : ∃ x, z k = x := ⟨_, rfl⟩
      rw [hzx] at c0 c1 c2 HX
      obtain ⟨kk, nn, ss⟩ := x
      simp only at c0 c1 c2
      have HZ := Lib.hid hzx; clear hzx
      obtain ⟨bk, bn, bs⟩ := HX.out
      simp only at bk bn bs
      unfold maxLen at bs
      by_cases q0 : kk = 0
      · subst q0
        have hob : opB ⟨0, nn, ss⟩ = smallB nn := by simp [opB]
        have HOB := Lib.hid hob; clear hob
        go_wp2_with fail
        refine (small_any P g _ nn _ (HI.out.alloc _).out (by have := HLn.out; omega)).mono ?_
        rintro e w2 ⟨rfl, hs⟩
        obtain ⟨g1, hR1, hk1, hg1⟩ := hs
        have hO2 := (HI.out.alloc _).own2 hk1
        have cB0 : w2.cell? ⟨wr.heap.size, 0, none⟩ = some (.int .i64 0) := hk1.cell' (v := .int .i64 0) (by rw [cell_of_heap (heap_new _ _)]; rfl) HI.out.fresh
        have cB1 : w2.cell? ⟨wr.heap.size, 1, none⟩ = some (.int .i64 nn) := hk1.cell' (v := .int .i64 nn) (by rw [cell_of_heap (heap_new _ _)]; rfl) HI.out.fresh
        have cB2 : w2.cell? ⟨wr.heap.size, 2, none⟩ = some (.string ss) := hk1.cell' (v := .string ss) (by rw [cell_of_heap (heap_new _ _)]; rfl) HI.out.fresh
        have HR1 := Lib.hid hR1; have HG1 := Lib.hid hg1; have HO2 := Lib.hid hO2; have HK1 := Lib.hid hk1
        clear hR1 hk1 hg1 hO2 c0 c1 c2
        go_wp2_with fail
        refine (bytes_any ⟨0, nn, ss⟩ HX.out _).mono ?_
        rintro e w3 ⟨v3, rfl, hO5, hK5, hF5⟩
        have HL3 := all_len (opsFrom z 0 k) ⟨0, nn, ss⟩ HLn.out
        rw [HOB.out] at hO5 HL3
        have K5 := Lib.hid hK5
        have hO3 := HO2.out.keep K5.out (fun _ _ f => f)
        unfold OwnB at hO3
        obtain ⟨ao5, cp5, rfl, sl5, bk5⟩ := hO5.slb
        have hsrc3 := OwnB.src (P := Try.prog) sl5 rfl (t := 25) Try.underlying25
        clear hO5 hK5 hF5 sl5 bk5 cB0 cB1 cB2
        have hl3 := HL3.out
        go_wp2_with (at_builtin; refine wpList_app 25 25 5 (.int .u8 0) 1 1 Try.underlying25 infoU8 rfl (by decide) (by decide) rfl rfl rfl rfl hO3 hsrc3 (by omega) ?_)
        intro ao4 cp4 w4 hown4 hgr4 hfr4
        have O4 := Lib.hid (OwnB.of_app hown4 rfl rfl rfl rfl); have G4 := Lib.hid hgr4; have F4 := Lib.hid hfr4
        clear hown4 hgr4 hfr4 hO3 hsrc3
        go_wp2_with fail
        go_roundw
        case rel =>
          refine ⟨k + 1, by omega, by omega, by go_num, g1, ?_⟩
          rw [opsFrom_snoc z 0 k (Nat.zero_le _), HZ.out, HOB.out]
          exact all_round (HI.out.alloc _) HR1.out HK1.out HG1.out K5.out O4.out G4.out F4.out
        case measure => simp [intOf]; omega
      · by_cases q1 : kk = 1
        · subst q1
          have hob : opB ⟨1, nn, ss⟩ = longB nn := by simp [opB]
          have HOB := Lib.hid hob; clear hob
          go_wp2_with fail
          refine (long_any P g _ nn _ (HI.out.alloc _).out (by have := HLn.out; omega)).mono ?_
          rintro e w2 ⟨rfl, hs⟩
          obtain ⟨g1, hR1, hk1, hg1⟩ := hs
          have hO2 := (HI.out.alloc _).own2 hk1
          have cB0 : w2.cell? ⟨wr.heap.size, 0, none⟩ = some (.int .i64 1) := hk1.cell' (v := .int .i64 1) (by rw [cell_of_heap (heap_new _ _)]; rfl) HI.out.fresh
          have cB1 : w2.cell? ⟨wr.heap.size, 1, none⟩ = some (.int .i64 nn) := hk1.cell' (v := .int .i64 nn) (by rw [cell_of_heap (heap_new _ _)]; rfl) HI.out.fresh
          have cB2 : w2.cell? ⟨wr.heap.size, 2, none⟩ = some (.string ss) := hk1.cell' (v := .string ss) (by rw [cell_of_heap (heap_new _ _)]; rfl) HI.out.fresh
          have HR1 := Lib.hid hR1; have HG1 := Lib.hid hg1; have HO2 := Lib.hid hO2; have HK1 := Lib.hid hk1
          clear hR1 hk1 hg1 hO2 c0 c1 c2
          go_wp2_with fail
          refine (bytes_any ⟨1, nn, ss⟩ HX.out _).mono ?_
          rintro e w3 ⟨v3, rfl, hO5, hK5, hF5⟩
          have HL3 := all_len (opsFrom z 0 k) ⟨1, nn, ss⟩ HLn.out
          rw [HOB.out] at hO5 HL3
          have K5 := Lib.hid hK5
          have hO3 := HO2.out.keep K5.out (fun _ _ f => f)
          unfold OwnB at hO3
          obtain ⟨ao5, cp5, rfl, sl5, bk5⟩ := hO5.slb
          have hsrc3 := OwnB.src (P := Try.prog) sl5 rfl (t := 25) Try.underlying25
          clear hO5 hK5 hF5 sl5 bk5 cB0 cB1 cB2
          have hl3 := HL3.out
          go_wp2_with (at_builtin; refine wpList_app 25 25 5 (.int .u8 0) 1 1 Try.underlying25 infoU8 rfl (by decide) (by decide) rfl rfl rfl rfl hO3 hsrc3 (by omega) ?_)
          intro ao4 cp4 w4 hown4 hgr4 hfr4
          have O4 := Lib.hid (OwnB.of_app hown4 rfl rfl rfl rfl); have G4 := Lib.hid hgr4; have F4 := Lib.hid hfr4
          clear hown4 hgr4 hfr4 hO3 hsrc3
          go_wp2_with fail
          go_roundw
          case rel =>
            refine ⟨k + 1, by omega, by omega, by go_num, g1, ?_⟩
            rw [opsFrom_snoc z 0 k (Nat.zero_le _), HZ.out, HOB.out]
            exact all_round (HI.out.alloc _) HR1.out HK1.out HG1.out K5.out O4.out G4.out F4.out
          case measure => simp [intOf]; omega
        · by_cases q2 : kk = 2
          · subst q2
            have hob : opB ⟨2, nn, ss⟩ = textB (cutS ss 60).data.toList := by simp [opB]
            have HOB := Lib.hid hob; clear hob
            go_wp2_with fail
            refine (cut_any ss 60 _ (by decide)).mono ?_
            rintro e w' ⟨rfl, rfl⟩
            go_wp2_with fail
            refine (text_any P g _ (cutS ss 60) _ (HI.out.alloc _).out (by have := HLn.out; omega) (by have := cutS_size ss 60; omega)).mono ?_
            rintro e w2 ⟨rfl, hs⟩
            obtain ⟨g1, hR1, hk1, hg1⟩ := hs
            have hO2 := (HI.out.alloc _).own2 hk1
            have cB0 : w2.cell? ⟨wr.heap.size, 0, none⟩ = some (.int .i64 2) := hk1.cell' (v := .int .i64 2) (by rw [cell_of_heap (heap_new _ _)]; rfl) HI.out.fresh
            have cB1 : w2.cell? ⟨wr.heap.size, 1, none⟩ = some (.int .i64 nn) := hk1.cell' (v := .int .i64 nn) (by rw [cell_of_heap (heap_new _ _)]; rfl) HI.out.fresh
            have cB2 : w2.cell? ⟨wr.heap.size, 2, none⟩ = some (.string ss) := hk1.cell' (v := .string ss) (by rw [cell_of_heap (heap_new _ _)]; rfl) HI.out.fresh
            have HR1 := Lib.hid hR1; have HG1 := Lib.hid hg1; have HO2 := Lib.hid hO2; have HK1 := Lib.hid hk1
            clear hR1 hk1 hg1 hO2 c0 c1 c2
            go_wp2_with fail
            refine (bytes_any ⟨2, nn, ss⟩ HX.out _).mono ?_
            rintro e w3 ⟨v3, rfl, hO5, hK5, hF5⟩
            have HL3 := all_len (opsFrom z 0 k) ⟨2, nn, ss⟩ HLn.out
            rw [HOB.out] at hO5 HL3
            have K5 := Lib.hid hK5
            have hO3 := HO2.out.keep K5.out (fun _ _ f => f)
            unfold OwnB at hO3
            obtain ⟨ao5, cp5, rfl, sl5, bk5⟩ := hO5.slb
            have hsrc3 := OwnB.src (P := Try.prog) sl5 rfl (t := 25) Try.underlying25
            clear hO5 hK5 hF5 sl5 bk5 cB0 cB1 cB2
            have hl3 := HL3.out
            go_wp2_with (at_builtin; refine wpList_app 25 25 5 (.int .u8 0) 1 1 Try.underlying25 infoU8 rfl (by decide) (by decide) rfl rfl rfl rfl hO3 hsrc3 (by omega) ?_)
            intro ao4 cp4 w4 hown4 hgr4 hfr4
            have O4 := Lib.hid (OwnB.of_app hown4 rfl rfl rfl rfl); have G4 := Lib.hid hgr4; have F4 := Lib.hid hfr4
            clear hown4 hgr4 hfr4 hO3 hsrc3
            go_wp2_with fail
            go_roundw
            case rel =>
              refine ⟨k + 1, by omega, by omega, by go_num, g1, ?_⟩
              rw [opsFrom_snoc z 0 k (Nat.zero_le _), HZ.out, HOB.out]
              exact all_round (HI.out.alloc _) HR1.out HK1.out HG1.out K5.out O4.out G4.out F4.out
            case measure => simp [intOf]; omega
          · have e0 : (kk == 0) = false := by simp; exact q0
            have e1 : (kk == 1) = false := by simp; exact q1
            have e2 : (kk == 2) = false := by simp; exact q2
            have hb := eq1_bool nn
            have hob : opB ⟨kk, nn, ss⟩ = truthB (decide (nn % 2 = 1)) := by simp [opB, q0, q1, q2]
            generalize decide (nn % 2 = 1) = t at hb hob
            have HOB := Lib.hid hob; clear hob q0 q1 q2
            go_wp2_with fail
            refine (truth_any P g _ t _ (HI.out.alloc _).out (by have := HLn.out; omega)).mono ?_
            rintro e w2 ⟨rfl, hs⟩
            obtain ⟨g1, hR1, hk1, hg1⟩ := hs
            have hO2 := (HI.out.alloc _).own2 hk1
            have cB0 : w2.cell? ⟨wr.heap.size, 0, none⟩ = some (.int .i64 kk) := hk1.cell' (v := .int .i64 kk) (by rw [cell_of_heap (heap_new _ _)]; rfl) HI.out.fresh
            have cB1 : w2.cell? ⟨wr.heap.size, 1, none⟩ = some (.int .i64 nn) := hk1.cell' (v := .int .i64 nn) (by rw [cell_of_heap (heap_new _ _)]; rfl) HI.out.fresh
            have cB2 : w2.cell? ⟨wr.heap.size, 2, none⟩ = some (.string ss) := hk1.cell' (v := .string ss) (by rw [cell_of_heap (heap_new _ _)]; rfl) HI.out.fresh
            have HR1 := Lib.hid hR1; have HG1 := Lib.hid hg1; have HO2 := Lib.hid hO2; have HK1 := Lib.hid hk1
            clear hR1 hk1 hg1 hO2 c0 c1 c2
            go_wp2_with fail
            refine (bytes_any ⟨kk, nn, ss⟩ HX.out _).mono ?_
            rintro e w3 ⟨v3, rfl, hO5, hK5, hF5⟩
            have HL3 := all_len (opsFrom z 0 k) ⟨kk, nn, ss⟩ HLn.out
            rw [HOB.out] at hO5 HL3
            have K5 := Lib.hid hK5
            have hO3 := HO2.out.keep K5.out (fun _ _ f => f)
            unfold OwnB at hO3
            obtain ⟨ao5, cp5, rfl, sl5, bk5⟩ := hO5.slb
            have hsrc3 := OwnB.src (P := Try.prog) sl5 rfl (t := 25) Try.underlying25
            clear hO5 hK5 hF5 sl5 bk5 cB0 cB1 cB2
            have hl3 := HL3.out
            go_wp2_with (at_builtin; refine wpList_app 25 25 5 (.int .u8 0) 1 1 Try.underlying25 infoU8 rfl (by decide) (by decide) rfl rfl rfl rfl hO3 hsrc3 (by omega) ?_)
            intro ao4 cp4 w4 hown4 hgr4 hfr4
            have O4 := Lib.hid (OwnB.of_app hown4 rfl rfl rfl rfl); have G4 := Lib.hid hgr4; have F4 := Lib.hid hfr4
            clear hown4 hgr4 hfr4 hO3 hsrc3
            go_wp2_with fail
            go_roundw
            case rel =>
              refine ⟨k + 1, by omega, by omega, by go_num, g1, ?_⟩
              rw [opsFrom_snoc z 0 k (Nat.zero_le _), HZ.out, HOB.out]
              exact all_round (HI.out.alloc _) HR1.out HK1.out HG1.out K5.out O4.out G4.out F4.out
            case measure => simp [intOf]; omega
    · have hI := HI.out
      obtain ⟨v, hv, hvg⟩ := hI.out
      obtain ⟨ao, cp, hvv, hsl, hbk⟩ := hv.slb
      obtain ⟨ao2, cp2, hw2, sl2, _⟩ := hI.own.slb
      have hlt2 : ∀ g, blockOf ao = some g → g < wr.heap.size := fun g hg => (World.ownsRow.lt hv.2.1 g (hbk ▸ hg)).2
      obtain ⟨T, hT⟩ : ∃ T, opsFrom z 0 k = T := ⟨_, rfl⟩
      obtain ⟨tt, htt⟩ : ∃ tt, T.length = tt := ⟨_, rfl⟩
      have hh := hv.1
      rw [hT] at hvv hsl hw2 sl2
      rw [htt] at hvv hw2
      subst hw2
      rw [hvv] at hh
      have hc := cell_of_heap hh 0
      simp at hc
      have hcvA := run_convert_SlB (P := Try.prog) (hsl.keep (Keep.refl NoF wr).drew (fun _ _ f => f)) (src := 25) (dst := 9) Try.underlying25 Try.underlying5 Try.underlying9
      have hcvB := run_convert_SlB (P := Try.prog) (sl2.keep (Keep.refl NoF wr).drew (fun _ _ f => f)) (src := 25) (dst := 9) Try.underlying25 Try.underlying5 Try.underlying9
      rw [htt] at hcvA hcvB
      have hrd := read_any ao cp T wr.drew (hsl.keep (Keep.refl NoF wr).drew (fun _ _ f => f)) hlt2
      rw [htt] at hrd
      have HRD := Lib.hid hrd; have HT := Lib.hid hT
      have HK : Hid (Keep NoF w wr) := hI.keep
      have HWQ : Hid (w.heap.size ≤ wr.heap.size) := hI.keep.size
      clear hrd hT hv hvg hvv hsl hbk sl2 hlt2 hh htt hI HI
      by_cases hfull : k < len0
      · obtain rfl : k = 30 := by omega
        have hf2 : ((30 : Nat) : Int) < len0 := by omega
        clear hgo
        go_wp2_with fail
        go_region
        go_wp2_with fail
        refine HRD.out.mono ?_
        rintro e w5 ⟨rfl, hR5, hk5⟩
        have K5 := Lib.hid (HK.out.trans' hk5.of_drew)
        have HR5 := Lib.hid hR5
        have HQ : Hid (w.heap.size ≤ wr.drew.heap.size) := HWQ.out
        clear hR5 hk5 hcvA hcvB hc HRD
        generalize wr.drew.heap.size = Q at HR5 HQ ⊢
        generalize blockOf ao = gg at HR5
        go_wp2_with fail
        go_loopw [9] (fun iv wx => ∃ j : Nat, j ≤ 30 ∧ iv = .int .i64 j ∧ InR wx Q gg (some (opsFrom z j 30)) ∧ Keep NoF w wx) (fun iv _ => 30 - (intOf iv).toNat)
        case atStart => exact ⟨0, Nat.zero_le _, rfl, by rw [HT.out]; exact HR5.out, K5.out⟩
        case round =>
          obtain ⟨j, hj, rfl, hR, hK⟩ := hrel
          have HRj := Lib.hid hR; have HKj := Lib.hid hK
          clear hR hK HR5 K5
          by_cases hlt : j < 30
          · obtain ⟨hX, gk, ok, rfl, c0, c1, c2⟩ := (H0.out.keep HKj.out).2.2 j (by omega)
            have HX := Lib.hid hX; clear hX
            have hj1 : (j : Int) < len0 := by omega
            have hj2 : (j : Int) < 30 := by omega
            go_wp2_with fail
            refine (one_any Q gg _ (z j) HX.out _ HRj.out).mono ?_
            rintro e w6 ⟨rfl, hR6, hk6⟩
            rw [opsFrom_cons z j _ hlt] at hR6 ⊢
            obtain ⟨o1, o2⟩ := one_put (z j) HX.out (opsFrom z (j + 1) 30)
            rw [o2] at hR6
            rw [o1]
            have HR6 := Lib.hid hR6; have HK6 := Lib.hid hk6
            clear hR6 hk6 o1 o2
            go_wp2_with fail
            go_roundw
            case rel => exact ⟨j + 1, by omega, by go_num, HR6.out, HKj.out.trans HK6.out (fun _ _ f => f) (fun i hi f => by have := HQ.out; omega)⟩
            case measure => simp [intOf]; omega
          · obtain rfl : j = 30 := by omega
            have hRz := HRj.out
            rw [opsFrom_self] at hRz
            have HRz := Lib.hid hRz
            clear hRz hlt HRj
            go_wp2_with fail
            refine (inend_any Q gg _ _ HRz.out).mono ?_
            rintro e w6 ⟨rfl, rfl⟩
            rw [show endOf (some ([] : List UInt8)) = true from rfl]
            go_wp2_with fail
            refine (inbad_any Q gg _ _ HRz.out).mono ?_
            rintro e w6 ⟨rfl, rfl⟩
            rw [show (some ([] : List UInt8)).isNone = false from rfl]
            go_wp2_with fail
            refine (inleft_any Q gg _ _ HRz.out).mono ?_
            rintro e w6 ⟨rfl, rfl⟩
            rw [show ((leftOf (some ([] : List UInt8)) : Nat) : Int) = 0 from rfl]
            go_wp2_with fail
            go_ret
            exact ⟨rfl, HKj.out⟩
      · obtain rfl : k = len0 := by omega
        clear hgo hfull
        go_wp2_with fail
        go_region
        go_wp2_with fail
        refine HRD.out.mono ?_
        rintro e w5 ⟨rfl, hR5, hk5⟩
        have K5 := Lib.hid (HK.out.trans' hk5.of_drew)
        have HR5 := Lib.hid hR5
        have HQ : Hid (w.heap.size ≤ wr.drew.heap.size) := HWQ.out
        clear hR5 hk5 hcvA hcvB hc HRD
        generalize wr.drew.heap.size = Q at HR5 HQ ⊢
        generalize blockOf ao = gg at HR5
        go_wp2_with fail
        go_loopw [9] (fun iv wx => ∃ j : Nat, j ≤ k ∧ iv = .int .i64 j ∧ InR wx Q gg (some (opsFrom z j k)) ∧ Keep NoF w wx) (fun iv _ => k - (intOf iv).toNat)
        case atStart => exact ⟨0, Nat.zero_le _, rfl, by rw [HT.out]; exact HR5.out, K5.out⟩
        case round =>
          obtain ⟨j, hj, rfl, hR, hK⟩ := hrel
          have HRj := Lib.hid hR; have HKj := Lib.hid hK
          clear hR hK HR5 K5
          by_cases hlt : j < k
          · obtain ⟨hX, gk, ok, rfl, c0, c1, c2⟩ := (H0.out.keep HKj.out).2.2 j (by omega)
            have HX := Lib.hid hX; clear hX
            have hj1 : (j : Int) < k := by omega
            have hj2 : (j : Int) < 30 := by omega
            go_wp2_with fail
            refine (one_any Q gg _ (z j) HX.out _ HRj.out).mono ?_
            rintro e w6 ⟨rfl, hR6, hk6⟩
            rw [opsFrom_cons z j _ hlt] at hR6 ⊢
            obtain ⟨o1, o2⟩ := one_put (z j) HX.out (opsFrom z (j + 1) k)
            rw [o2] at hR6
            rw [o1]
            have HR6 := Lib.hid hR6; have HK6 := Lib.hid hk6
            clear hR6 hk6 o1 o2
            go_wp2_with fail
            go_roundw
            case rel => exact ⟨j + 1, by omega, by go_num, HR6.out, HKj.out.trans HK6.out (fun _ _ f => f) (fun i hi f => by have := HQ.out; omega)⟩
            case measure => simp [intOf]; omega
          · obtain rfl : j = k := by omega
            have hRz := HRj.out
            rw [opsFrom_self] at hRz
            have HRz := Lib.hid hRz
            clear hRz hlt HRj
            go_wp2_with fail
            refine (inend_any Q gg _ _ HRz.out).mono ?_
            rintro e w6 ⟨rfl, rfl⟩
            rw [show endOf (some ([] : List UInt8)) = true from rfl]
            go_wp2_with fail
            refine (inbad_any Q gg _ _ HRz.out).mono ?_
            rintro e w6 ⟨rfl, rfl⟩
            rw [show (some ([] : List UInt8)).isNone = false from rfl]
            go_wp2_with fail
            refine (inleft_any Q gg _ _ HRz.out).mono ?_
            rintro e w6 ⟨rfl, rfl⟩
            rw [show ((leftOf (some ([] : List UInt8)) : Nat) : Int) = 0 from rfl]
            go_wp2_with fail
            go_ret
            exact ⟨rfl, HKj.out⟩

set_option linter.unusedVariables false
set_option maxRecDepth 100000 in
theorem lifted (os : Os) (started : os.Started) (H : Type) (enc : TypeId × Value → H) :
    ReturnsInHanded {} Try.checked os 3 .any (Rows.byteAllSpec.pre6 enc Try.prog Try.f3 Rows.byteAllRow.domain false) (Rows.byteAllSpec.post enc Try.prog Try.f3 false true false false) := by
  refine returnsInHanded_of_change (C := Try.checked) own started (by kernel_rfl) Try.func3
    (ChangeSpec.witness6 (enc := enc) (C := Try.checked) false ⟨#[], #[.slice none 0 0], []⟩ 8 (by kernel_rfl) (by kernel_rfl) (by kernel_rfl) (by kernel_rfl)) ?_
  intro W base args ds gs before hval0 hW hcnd _
  have hval : ∀ (j : Nat) t v, Try.f3.params[j]? = some t → args[j]? = some v → Value.okWide Try.prog W .any base t v := hval0
  have hW' := hW
  obtain ⟨p, q, hA0, hV, rfl, hfz, hnd⟩ := hW
  have hA : DataW.TrodAll enc Try.prog W 0 (fun _ => true) true Try.f3.params.toList args.toList ds p := hA0
  rw [Try.params3] at hA hval
  obtain ⟨v0, vs0, d0, ds0, p0, q0, hargs, rfl, rfl, h0, r0⟩ := trodAll_cons hA
  obtain ⟨rfl, rfl, rfl⟩ := trodAll_nil r0
  obtain rfl : args = #[v0] := by cases args; simp_all
  obtain ⟨rfl, rfl⟩ := trodVars_none hV
  obtain ⟨a0, len0, cap0, rfl⟩ := okWide_slice Try.underlying22 (hval 0 22 v0 rfl rfl)
  have k0 := h0
  have lt0 : ∀ x ∈ p0, x.block < W.heap.size := by obtain ⟨m, hm⟩ := k0; exact DataW.trod_lt m _ _ _ hm
  obtain ⟨z0, w0⟩ := open_arg0 W base h0
  clear hA0 hval0
  refine (walk W a0 len0 cap0 z0 w0).mono fun e W' ⟨he, hk⟩ => ?_
  subst he
  have bel := Keep.below hk
  exact ⟨_, rfl, _, _, _, [], _, [], hW', trodAll_mk1 (shut_bool Try.underlying4 _), (trodAll_cons_mk (Below.trod laidOut (by kernel_rfl) (of_decide_eq_true (by kernel_rfl)) k0 bel lt0) trodAll_mk0), rfl, bel.frame _, fun h => by cases h⟩

theorem over : Rows.byteAllRow.holds Try.pinned (OpenSpec.ofChange Rows.byteAllSpec) :=
  OpenClaim.holds_of_wide 3 Try.f3 rfl rfl rfl rfl rfl rfl rfl ⟨rfl, rfl, rfl, rfl, rfl⟩ rfl rfl rfl rfl rfl (by kernel_rfl) Try.func3 (by kernel_rfl)
    (of_decide_eq_true (by kernel_rfl)) (by unfold Func.isWrapper; rw [if_neg (of_decide_eq_false (by kernel_rfl))]; exact ⟨rfl, rfl⟩)
    (fun os started H enc _ => lifted os started H enc)

/-- The statement. -/
theorem proved : Rows.ByteAllSaid := over
#print axioms proved
end Go.Proofs.Ytdipknkajmoldaa.byteAll
