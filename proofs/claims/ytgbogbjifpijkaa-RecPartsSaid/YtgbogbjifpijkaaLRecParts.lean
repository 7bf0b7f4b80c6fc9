/- RecParts: the law returns true and changes nothing that was there. No conditions. -/
import Derived.Test.YtgbogbjifpijkaaTells8
import Derived.Test.YtgbogbjifpijkaaRows
import Derived.WalkKit
import Derived.ProofKit
import Derived.OpenShut
import Derived.ShutString
import Derived.ChangeOld
import Derived.Below
namespace Go.Proofs.Ytgbogbjifpijkaa.recParts
open Go Go.ChangeShapes Go.WideShapes Go.ChangeAt Go.RowKit
open Go.ChangeMaps (open_string shut_string)

theorem own : ownKnob Try.prog.godebug = none := by kernel_rfl
theorem laidOut : laidOutB Try.prog = true := by kernel_rfl

def partsL (j : Nat) : List Int := (List.range j).map fun i => ((i + 1 : Nat) : Int)
def qb : PutV := ⟨⟨#[113]⟩, ⟨#[98, 111, 100, 121]⟩⟩
def putsL (j : Nat) : List PutV := List.replicate j qb
theorem partsL_length (j : Nat) : (partsL j).length = j := by simp [partsL]
theorem partsL_succ (j : Nat) : partsL (j + 1) = partsL j ++ [((j + 1 : Nat) : Int)] := by simp [partsL, List.range_succ]
theorem putsL_length (j : Nat) : (putsL j).length = j := by simp [putsL]
theorem putsL_succ (j : Nat) : putsL (j + 1) = putsL j ++ [qb] := by simp [putsL, List.replicate_succ']
theorem parts_ok : ∀ n, n < 10 → recB ⟨6, 34359738369, 0, false, partsL n, []⟩ = (decide (1 ≤ n) && decide (n ≤ 7)) := by decide +kernel
theorem puts_ok4 : ∀ n, n < 13 → recB ⟨4, 4294967297, 0, false, [], putsL n⟩ = decide (n ≤ 10) := by decide +kernel
theorem puts_ok7 : ∀ n, n < 13 → recB ⟨7, 4294967297, 0, false, [], putsL n⟩ = decide (n ≤ 10) := by decide +kernel
theorem in_small {x : Int} (h : 0 ≤ x ∧ x ≤ 100000000000) : InI64 x := by unfold InI64; omega
structure PartsI (w0 wr : World) (A j : Nat) (ao : Option Addr) (cp : Nat) : Prop where
  row : wr.heap[A]? = some (.cells (recCells 6 34359738369 0 false (.slice ao j cp) (.slice none 0 0)) 38 (0, 0))
  own : OwnI wr (.slice ao j cp) (partsL j)
  keep : Keep NoF w0 wr
  new : ∀ g, blockOf ao = some g → A < g
  old : w0.heap.size ≤ A
theorem PartsI.step {w0 wr wa w9 : World} {A j : Nat} {ao a9 : Option Addr} {cp c9 : Nat} (h : PartsI w0 wr A j ao cp) (hk : Keep NoF wr wa) (hown : w9.ownsRow 0 3 1 (.slice a9 (j + 1) c9) (j + 1) (ivs (partsL j) ++ [.int .i64 ((j : Int) + 1)]))
    (hgr : wa.grownBy w9 (Value.slice ao j cp).ownBlock) (hfr : (Value.slice a9 (j + 1) c9).ownBlock = (Value.slice ao j cp).ownBlock ∨ (Value.slice a9 (j + 1) c9).ownBlock = some wa.heap.size) :
    PartsI w0 (w9.setCell ⟨A, 4, none⟩ (.slice a9 (j + 1) c9)) A (j + 1) a9 c9 ∧ w9.heap[A]? = some (.cells (recCells 6 34359738369 0 false (.slice ao j cp) (.slice none 0 0)) 38 (0, 0)) := by
  rw [own_blk] at hgr
  rw [own_blk, own_blk] at hfr
  have hA := lt_of_heap h.row
  have kO : Keep (fun g => blockOf ao = some g) wr w9 := (hk.mono (fun _ _ f => f.elim)).grown hgr (fun g _ e => e)
  have hrow : w9.heap[A]? = some (.cells (recCells 6 34359738369 0 false (.slice ao j cp) (.slice none 0 0)) 38 (0, 0)) := by
    rw [kO.block A hA (fun e => by have := h.new A e; omega)]; exact h.row
  have hn : ∀ g, blockOf a9 = some g → A < g := fun g hg => by
    rcases hfr with f | f
    · exact h.new g (by rw [← f]; exact hg)
    · rw [f] at hg; injection hg with hg; have := hk.size; omega
  refine ⟨⟨set1 hrow _, ?_, ?_, hn, h.old⟩, hrow⟩
  · have h1 : OwnI w9 (.slice a9 (j + 1) c9) (partsL (j + 1)) := by
      rw [OwnI, partsL_length, partsL_succ, ivs, List.map_append]
      have e : ((j + 1 : Nat) : Int) = (j : Int) + 1 := by omega
      rw [List.map_cons, List.map_nil, e]
      exact hown
    exact h1.keep ((Keep.refl (fun x => x = A) w9).setCell (p := ⟨A, 4, none⟩) (fun _ => rfl) _) (fun g hg e => by rw [own_blk] at hg; have := hn g hg; omega)
  · exact (h.keep.trans kO (fun _ _ f => f) (fun g hg e => by have := h.new g e; have := h.old; omega)).setCell (p := ⟨A, 4, none⟩) (fun x => by have := h.old; simp only at x; omega) _
structure PutsI (w0 wr : World) (A j : Nat) (ao : Option Addr) (cp : Nat) : Prop where
  row : wr.heap[A]? = some (.cells (recCells 4 4294967297 0 false (.slice none 0 0) (.slice ao j cp)) 38 (0, 0))
  own : OwnP wr (.slice ao j cp) (putsL j)
  keep : Keep NoF w0 wr
  new : ∀ g, blockOf ao = some g → A < g
  old : w0.heap.size ≤ A
theorem PutsI.step {w0 wr wa w9 : World} {A j : Nat} {ao a9 : Option Addr} {cp c9 : Nat} (h : PutsI w0 wr A j ao cp) (hk : Keep NoF wr wa) (hown : w9.ownsRow 0 29 2 (.slice a9 (j + 1) c9) (j + 1) (pvs (putsL j) ++ [.string ⟨#[113]⟩, .string ⟨#[98, 111, 100, 121]⟩]))
    (hgr : wa.grownBy w9 (Value.slice ao j cp).ownBlock) (hfr : (Value.slice a9 (j + 1) c9).ownBlock = (Value.slice ao j cp).ownBlock ∨ (Value.slice a9 (j + 1) c9).ownBlock = some wa.heap.size) :
    PutsI w0 (w9.setCell ⟨A, 5, none⟩ (.slice a9 (j + 1) c9)) A (j + 1) a9 c9 ∧ w9.heap[A]? = some (.cells (recCells 4 4294967297 0 false (.slice none 0 0) (.slice ao j cp)) 38 (0, 0)) := by
  rw [own_blk] at hgr
  rw [own_blk, own_blk] at hfr
  have hA := lt_of_heap h.row
  have kO : Keep (fun g => blockOf ao = some g) wr w9 := (hk.mono (fun _ _ f => f.elim)).grown hgr (fun g _ e => e)
  have hrow : w9.heap[A]? = some (.cells (recCells 4 4294967297 0 false (.slice none 0 0) (.slice ao j cp)) 38 (0, 0)) := by
    rw [kO.block A hA (fun e => by have := h.new A e; omega)]; exact h.row
  have hn : ∀ g, blockOf a9 = some g → A < g := fun g hg => by
    rcases hfr with f | f
    · exact h.new g (by rw [← f]; exact hg)
    · rw [f] at hg; injection hg with hg; have := hk.size; omega
  refine ⟨⟨set1 hrow _, ?_, ?_, hn, h.old⟩, hrow⟩
  · have h1 : OwnP w9 (.slice a9 (j + 1) c9) (putsL (j + 1)) := by
      rw [OwnP, putsL_length, putsL_succ, pvs, List.flatMap_append]
      exact hown
    exact h1.keep ((Keep.refl (fun x => x = A) w9).setCell (p := ⟨A, 5, none⟩) (fun _ => rfl) _) (fun g hg e => by rw [own_blk] at hg; have := hn g hg; omega)
  · exact (h.keep.trans kO (fun _ _ f => f) (fun g hg e => by have := h.new g e; have := h.old; omega)).setCell (p := ⟨A, 5, none⟩) (fun x => by have := h.old; simp only at x; omega) _

set_option maxHeartbeats 8000000 in
theorem walk (w : World) (n : Int) (hn : (Lit.int .i64 n).wf = true) (m : Int) (hm : (Lit.int .i64 m).wf = true) (yes : Bool) :
    Calls Try.prog 13 #[.int .i64 n, .int .i64 m, .bool yes] w fun e w' => e = .returned (.bool true) ∧ Keep NoF w w' := by
  have bn := bounds_i64 hn
  have bm := bounds_i64 hm
  clear hn hm
  go_enter Try.func13, Try.ntmps13
  go_wp2_with fail
  refine (begun8_any w).mono ?_
  rintro e w1 ⟨rfl, hk⟩
  have K1 := Lib.hid hk; clear hk
  have hcase : n < 0 ∨ (0 ≤ n ∧ 9 < n) ∨ (0 ≤ n ∧ n ≤ 9 ∧ m < 0) ∨ (0 ≤ n ∧ n ≤ 9 ∧ 0 ≤ m ∧ 12 < m) ∨ (0 ≤ n ∧ n ≤ 9 ∧ 0 ≤ m ∧ m ≤ 12) := by omega
  rcases hcase with h1 | ⟨h1, h2⟩ | ⟨h1, h2, h3⟩ | ⟨h1, h2, h3, h4⟩ | ⟨h1, h2, h3, h4⟩
  · go_wp2_with fail
    go_ret
    exact ⟨rfl, K1.out⟩
  · go_wp2_with fail
    go_ret
    exact ⟨rfl, K1.out⟩
  · go_wp2_with fail
    go_ret
    exact ⟨rfl, K1.out⟩
  · go_wp2_with fail
    go_ret
    exact ⟨rfl, K1.out⟩
  · obtain ⟨a, rfl⟩ : ∃ a : Nat, n = a := ⟨n.toNat, by omega⟩
    obtain ⟨b, rfl⟩ : ∃ b : Nat, m = b := ⟨m.toNat, by omega⟩
    have ha9 : a ≤ 9 := by omega
    have hb12 : b ≤ 12 := by omega
    go_upto_region 7 with fail
    have hP : PartsI w1 (w1.alloc (.cells (recCells 6 34359738369 0 false (.slice none 0 0) (.slice none 0 0)) 38 (0, 0))) w1.heap.size 0 none 0 := ⟨heap_new _ _, OwnI.nil _, keep_alloc _ _, nofun, Nat.le_refl _⟩
    show Code.wp _ _ _ _ (w1.alloc (.cells (recCells 6 34359738369 0 false (.slice none 0 0) (.slice none 0 0)) 38 (0, 0)))
    generalize w1.alloc (.cells (recCells 6 34359738369 0 false (.slice none 0 0) (.slice none 0 0)) 38 (0, 0)) = W2 at hP ⊢
    generalize w1.heap.size = A at hP ⊢
    have HP := Lib.hid hP; clear hP
    go_wp2_with fail
    go_loopw [9] (fun iv wr => ∃ (j : Nat) (ao : Option Addr) (cp : Nat), j ≤ a ∧ iv = .int .i64 ((j : Int) + 1) ∧ PartsI w1 wr A j ao cp) (fun iv _ => a + 1 - (intOf iv).toNat)
    case atStart => exact ⟨0, none, 0, Nat.zero_le _, rfl, HP.out⟩
    case round =>
      obtain ⟨j, ao, cp, hj, rfl, hQ⟩ := hrel
      clear HP
      obtain ⟨c0, c1, c2, c3, c4, c5⟩ := rec_cells hQ.row
      have HQ := Lib.hid hQ
      have hO := hQ.own
      unfold OwnI at hO
      rw [partsL_length] at hO
      have HO := Lib.hid hO
      clear hQ hO
      by_cases hlt : j < a
      · have hle : (j : Int) + 1 ≤ a := by omega
        go_wp2_with (at_builtin; refine wpList_app 35 35 3 (.int .i64 0) 1 8 Try.underlying35 infoI64 rfl (by decide) (by decide) rfl rfl rfl rfl (HO.out.alloc _) (Src.one Try.underlying35 (heap_new wr _) rfl 1) (by omega) ?_)
        intro a9 c9 w9 hown hgr hfr
        obtain ⟨hN, hrow9⟩ := HQ.out.step (keep_alloc wr _) hown hgr (hfr.imp id (fun e => e.trans (by simp)))
        have hfz := free_of_heap hrow9 4
        have c49 := cell_of_heap hrow9 4
        simp [recCells] at c49
        have HN := Lib.hid hN
        clear hown hgr hfr hrow9 hN c0 c1 c2 c3 c4 c5 HO
        go_wp2_with fail
        go_roundw
        case rel => exact ⟨j + 1, a9, c9, by omega, by go_num, HN.out⟩
        case measure => simp [intOf]; omega
      · have hle : ¬ ((j : Int) + 1 ≤ a) := by omega
        obtain rfl : j = a := by omega
        clear hlt HO c0 c1 c2 c3 c4 c5
        obtain ⟨aa, cc, ee, sa, _⟩ := HQ.out.own.sl (fun x hx => by obtain ⟨q, hq, rfl⟩ := List.mem_map.1 hx; have := List.mem_range.1 hq; exact in_small (by omega))
        rw [partsL_length] at ee
        obtain ⟨rfl, rfl⟩ : ao = aa ∧ cp = cc := by injection ee with x1 x2 x3; exact ⟨x1, x3⟩
        have hra : RecAt wr ⟨6, 34359738369, 0, false, partsL j, []⟩ ao cp none 0 := ⟨in_small (x := 6) (by decide), in_small (x := 34359738369) (by decide), in_small (x := 0) (by decide), sa, SlP.nil _⟩
        have HRA := Lib.hid hra
        clear sa hra ee
        obtain ⟨WA, rfl⟩ : ∃ W, W = wr := ⟨_, rfl⟩
        go_upto_region 12 with fail
        have hU : PutsI WA (WA.alloc (.cells (recCells 4 4294967297 0 false (.slice none 0 0) (.slice none 0 0)) 38 (0, 0))) WA.heap.size 0 none 0 := ⟨heap_new _ _, OwnP.nil _, keep_alloc _ _, nofun, Nat.le_refl _⟩
        show Code.wp _ _ _ _ (WA.alloc (.cells (recCells 4 4294967297 0 false (.slice none 0 0) (.slice none 0 0)) 38 (0, 0)))
        generalize WA.alloc (.cells (recCells 4 4294967297 0 false (.slice none 0 0) (.slice none 0 0)) 38 (0, 0)) = W3 at hU ⊢
        generalize WA.heap.size = Z at hU ⊢
        have HU := Lib.hid hU; clear hU
        go_wp2_with fail
        go_loopw [11] (fun iv wq => ∃ (i : Nat) (bo : Option Addr) (bp : Nat), i ≤ b ∧ iv = .int .i64 i ∧ PutsI WA wq Z i bo bp) (fun iv _ => b - (intOf iv).toNat)
        case atStart => exact ⟨0, none, 0, Nat.zero_le _, rfl, HU.out⟩
        case round =>
          obtain ⟨i, bo, bp, hi, rfl, hQ2⟩ := hrel
          clear HU
          obtain ⟨c0, c1, c2, c3, c4, c5⟩ := rec_cells hQ2.row
          have HQ2 := Lib.hid hQ2
          have hO := hQ2.own
          unfold OwnP at hO
          rw [putsL_length] at hO
          have HO := Lib.hid hO
          clear hQ2 hO
          by_cases hlt : i < b
          · have hle2 : (i : Int) < b := by omega
            go_wp2_with (at_builtin; refine wpList_app 36 36 29 (.agg #[.string ByteArray.empty, .string ByteArray.empty]) 2 32 Try.underlying36 infoPut rfl (by decide) (by decide) rfl rfl rfl rfl (HO.out.alloc _) (Src.two Try.underlying36 (heap_new _ _) 1) (by omega) ?_)
            intro a9 c9 w9 hown hgr hfr
            obtain ⟨hN, hrow9⟩ := HQ2.out.step (keep_alloc _ _) hown hgr (hfr.imp id (fun e => e.trans (by simp)))
            have hfz := free_of_heap hrow9 5
            have c59 := cell_of_heap hrow9 5
            simp [recCells] at c59
            have HN := Lib.hid hN
            clear hown hgr hfr hrow9 hN c0 c1 c2 c3 c4 c5 HO
            go_wp2_with fail
            go_roundw
            case rel => exact ⟨i + 1, a9, c9, by omega, by go_num, HN.out⟩
            case measure => simp [intOf]; omega
          · have hle2 : ¬ ((i : Int) < b) := by omega
            obtain rfl : i = b := by omega
            clear hlt HO c0 c1 c2 c3 c4 c5
            obtain ⟨aa, cc, ee, sb, _⟩ := HQ2.out.own.sl (fun x hx => by rw [List.eq_of_mem_replicate hx]; decide)
            rw [putsL_length] at ee
            obtain ⟨rfl, rfl⟩ : bo = aa ∧ bp = cc := by injection ee with x1 x2 x3; exact ⟨x1, x3⟩
            have hrA := row_keep HQ.out.row HQ2.out.keep
            have hrZ := HQ2.out.row
            have hRA := HRA.out.keep HQ2.out.keep
            have hRZ : RecAt wr ⟨4, 4294967297, 0, false, [], putsL i⟩ none 0 bo bp := ⟨in_small (x := 4) (by decide), in_small (x := 4294967297) (by decide), in_small (x := 0) (by decide), SlI.nil _, sb⟩
            have hKW : Keep NoF w wr := K1.out.trans' (HQ.out.keep.trans' HQ2.out.keep)
            have hAZ : A < Z := Nat.lt_of_lt_of_le (lt_of_heap HQ.out.row) HQ2.out.old
            have hwZ : w.heap.size ≤ Z := by have := HQ2.out.old; have := (K1.out.trans' HQ.out.keep).size; omega
            have hn5 := HQ2.out.new
            clear sb ee
            have hj : j = 0 ∨ (1 ≤ j ∧ j ≤ 7) ∨ (1 ≤ j ∧ 7 < j) := by omega
            have hi2 : i ≤ 10 ∨ 10 < i := by omega
            cases yes
            · have HRA9 := Lib.hid hRA; have HRZ9 := Lib.hid hRZ; have HZ9 := Lib.hid hrZ; have KW9 := Lib.hid hKW
              obtain ⟨c0, c1, c2, c3, c4, c5⟩ := rec_cells hrA
              have hp1 := parts_ok j (by omega)
              have hp2 := puts_ok4 i (by omega)
              have PL := partsL_length j
              have UL := putsL_length i
              clear hRA hRZ hrZ hKW hrA
              rcases hj with rfl | ⟨hj1, hj7⟩ | ⟨hj1, hj7⟩
              · replace hp1 : recB ⟨6, 34359738369, 0, false, partsL 0, []⟩ = false := by rw [hp1]; simp
                have he1 := encode_f 6 34359738369 0 false (partsL 0) [] ao cp none 0 hp1 wr HRA9.out
                simp only [PL, List.length_nil] at he1
                have HE1 := Lib.hid he1
                clear he1 hp1
                rcases hi2 with hi10 | hi10
                · replace hp2 : recB ⟨4, 4294967297, 0, false, [], putsL i⟩ = true := by rw [hp2]; simp; omega
                  obtain ⟨nf, hnf⟩ : ∃ n, (encB ⟨4, 4294967297, 0, false, [], putsL i⟩).length = n := ⟨_, rfl⟩
                  have he2 := fun W h => encode_g 4 4294967297 0 false [] (putsL i) none 0 bo bp hp2 nf hnf W h
                  clear hnf
                  simp only [UL, List.length_nil] at he2
                  have HE2 := Lib.hid he2
                  clear he2 hp2
                  have hi10i : (i : Int) ≤ 10 := by omega
                  go_wp2_with fail
                  refine HE1.out.mono ?_
                  rintro e w8 ⟨rfl, hk8⟩
                  have hq1 := Lib.run_eql_slice_nil (P := Try.prog) w8 24 5 none 0 0 0 0 Try.underlying24
                  clear c0 c1 c2 c3 c4 c5
                  obtain ⟨c0, c1, c2, c3, c4, c5⟩ := rec_cells (row_keep HZ9.out hk8)
                  have K8 := Lib.hid hk8
                  clear hk8
                  go_wp2_with fail
                  refine (HE2.out _ (HRZ9.out.keep K8.out)).mono ?_
                  rintro e w9 ⟨g2, cf, rfl, _, _, hk9, _, _⟩
                  have hq2 := Lib.run_eql_slice_nil (P := Try.prog) w9 24 5 (some ⟨g2, 0, none⟩) nf cf 0 0 Try.underlying24
                  have K9 := Lib.hid hk9
                  clear hk9
                  go_wp2_with fail
                  go_ret
                  exact ⟨rfl, KW9.out.trans' (K8.out.trans' K9.out)⟩
                · replace hp2 : recB ⟨4, 4294967297, 0, false, [], putsL i⟩ = false := by rw [hp2]; simp; omega
                  have he2 := fun W h => encode_f 4 4294967297 0 false [] (putsL i) none 0 bo bp hp2 W h
                  simp only [UL, List.length_nil] at he2
                  have HE2 := Lib.hid he2
                  clear he2 hp2
                  have hi10i : ¬ ((i : Int) ≤ 10) := by omega
                  have hi10d : decide ((i : Int) ≤ 10) = false := by simp; omega
                  go_wp2_with fail
                  refine HE1.out.mono ?_
                  rintro e w8 ⟨rfl, hk8⟩
                  have hq1 := Lib.run_eql_slice_nil (P := Try.prog) w8 24 5 none 0 0 0 0 Try.underlying24
                  clear c0 c1 c2 c3 c4 c5
                  obtain ⟨c0, c1, c2, c3, c4, c5⟩ := rec_cells (row_keep HZ9.out hk8)
                  have K8 := Lib.hid hk8
                  clear hk8
                  go_wp2_with fail
                  refine (HE2.out _ (HRZ9.out.keep K8.out)).mono ?_
                  rintro e w9 ⟨rfl, hk9⟩
                  have hq2 := Lib.run_eql_slice_nil (P := Try.prog) w9 24 5 none 0 0 0 0 Try.underlying24
                  have K9 := Lib.hid hk9
                  clear hk9
                  go_wp2_with fail
                  go_ret
                  exact ⟨rfl, KW9.out.trans' (K8.out.trans' K9.out)⟩
              · replace hp1 : recB ⟨6, 34359738369, 0, false, partsL j, []⟩ = true := by rw [hp1]; simp; omega
                obtain ⟨ne, hne⟩ : ∃ n, (encB ⟨6, 34359738369, 0, false, partsL j, []⟩).length = n := ⟨_, rfl⟩
                have he1 := encode_g 6 34359738369 0 false (partsL j) [] ao cp none 0 hp1 ne hne wr HRA9.out
                clear hne
                simp only [PL, List.length_nil] at he1
                have hj1i : (1 : Int) ≤ j := by omega
                have hj7i : (j : Int) ≤ 7 := by omega
                have HE1 := Lib.hid he1
                clear he1 hp1
                rcases hi2 with hi10 | hi10
                · replace hp2 : recB ⟨4, 4294967297, 0, false, [], putsL i⟩ = true := by rw [hp2]; simp; omega
                  obtain ⟨nf, hnf⟩ : ∃ n, (encB ⟨4, 4294967297, 0, false, [], putsL i⟩).length = n := ⟨_, rfl⟩
                  have he2 := fun W h => encode_g 4 4294967297 0 false [] (putsL i) none 0 bo bp hp2 nf hnf W h
                  clear hnf
                  simp only [UL, List.length_nil] at he2
                  have HE2 := Lib.hid he2
                  clear he2 hp2
                  have hi10i : (i : Int) ≤ 10 := by omega
                  go_wp2_with fail
                  refine HE1.out.mono ?_
                  rintro e w8 ⟨g1, ce, rfl, _, _, hk8, _, _⟩
                  have hq1 := Lib.run_eql_slice_nil (P := Try.prog) w8 24 5 (some ⟨g1, 0, none⟩) ne ce 0 0 Try.underlying24
                  clear c0 c1 c2 c3 c4 c5
                  obtain ⟨c0, c1, c2, c3, c4, c5⟩ := rec_cells (row_keep HZ9.out hk8)
                  have K8 := Lib.hid hk8
                  clear hk8
                  go_wp2_with fail
                  refine (HE2.out _ (HRZ9.out.keep K8.out)).mono ?_
                  rintro e w9 ⟨g2, cf, rfl, _, _, hk9, _, _⟩
                  have hq2 := Lib.run_eql_slice_nil (P := Try.prog) w9 24 5 (some ⟨g2, 0, none⟩) nf cf 0 0 Try.underlying24
                  have K9 := Lib.hid hk9
                  clear hk9
                  go_wp2_with fail
                  go_ret
                  exact ⟨rfl, KW9.out.trans' (K8.out.trans' K9.out)⟩
                · replace hp2 : recB ⟨4, 4294967297, 0, false, [], putsL i⟩ = false := by rw [hp2]; simp; omega
                  have he2 := fun W h => encode_f 4 4294967297 0 false [] (putsL i) none 0 bo bp hp2 W h
                  simp only [UL, List.length_nil] at he2
                  have HE2 := Lib.hid he2
                  clear he2 hp2
                  have hi10i : ¬ ((i : Int) ≤ 10) := by omega
                  have hi10d : decide ((i : Int) ≤ 10) = false := by simp; omega
                  go_wp2_with fail
                  refine HE1.out.mono ?_
                  rintro e w8 ⟨g1, ce, rfl, _, _, hk8, _, _⟩
                  have hq1 := Lib.run_eql_slice_nil (P := Try.prog) w8 24 5 (some ⟨g1, 0, none⟩) ne ce 0 0 Try.underlying24
                  clear c0 c1 c2 c3 c4 c5
                  obtain ⟨c0, c1, c2, c3, c4, c5⟩ := rec_cells (row_keep HZ9.out hk8)
                  have K8 := Lib.hid hk8
                  clear hk8
                  go_wp2_with fail
                  refine (HE2.out _ (HRZ9.out.keep K8.out)).mono ?_
                  rintro e w9 ⟨rfl, hk9⟩
                  have hq2 := Lib.run_eql_slice_nil (P := Try.prog) w9 24 5 none 0 0 0 0 Try.underlying24
                  have K9 := Lib.hid hk9
                  clear hk9
                  go_wp2_with fail
                  go_ret
                  exact ⟨rfl, KW9.out.trans' (K8.out.trans' K9.out)⟩
              · replace hp1 : recB ⟨6, 34359738369, 0, false, partsL j, []⟩ = false := by rw [hp1]; simp; omega
                have he1 := encode_f 6 34359738369 0 false (partsL j) [] ao cp none 0 hp1 wr HRA9.out
                simp only [PL, List.length_nil] at he1
                have hj1i : (1 : Int) ≤ j := by omega
                have hj7i : ¬ ((j : Int) ≤ 7) := by omega
                have hj7d : decide ((j : Int) ≤ 7) = false := by simp; omega
                have HE1 := Lib.hid he1
                clear he1 hp1
                rcases hi2 with hi10 | hi10
                · replace hp2 : recB ⟨4, 4294967297, 0, false, [], putsL i⟩ = true := by rw [hp2]; simp; omega
                  obtain ⟨nf, hnf⟩ : ∃ n, (encB ⟨4, 4294967297, 0, false, [], putsL i⟩).length = n := ⟨_, rfl⟩
                  have he2 := fun W h => encode_g 4 4294967297 0 false [] (putsL i) none 0 bo bp hp2 nf hnf W h
                  clear hnf
                  simp only [UL, List.length_nil] at he2
                  have HE2 := Lib.hid he2
                  clear he2 hp2
                  have hi10i : (i : Int) ≤ 10 := by omega
                  go_wp2_with fail
                  refine HE1.out.mono ?_
                  rintro e w8 ⟨rfl, hk8⟩
                  have hq1 := Lib.run_eql_slice_nil (P := Try.prog) w8 24 5 none 0 0 0 0 Try.underlying24
                  clear c0 c1 c2 c3 c4 c5
                  obtain ⟨c0, c1, c2, c3, c4, c5⟩ := rec_cells (row_keep HZ9.out hk8)
                  have K8 := Lib.hid hk8
                  clear hk8
                  go_wp2_with fail
                  refine (HE2.out _ (HRZ9.out.keep K8.out)).mono ?_
                  rintro e w9 ⟨g2, cf, rfl, _, _, hk9, _, _⟩
                  have hq2 := Lib.run_eql_slice_nil (P := Try.prog) w9 24 5 (some ⟨g2, 0, none⟩) nf cf 0 0 Try.underlying24
                  have K9 := Lib.hid hk9
                  clear hk9
                  go_wp2_with fail
                  go_ret
                  exact ⟨rfl, KW9.out.trans' (K8.out.trans' K9.out)⟩
                · replace hp2 : recB ⟨4, 4294967297, 0, false, [], putsL i⟩ = false := by rw [hp2]; simp; omega
                  have he2 := fun W h => encode_f 4 4294967297 0 false [] (putsL i) none 0 bo bp hp2 W h
                  simp only [UL, List.length_nil] at he2
                  have HE2 := Lib.hid he2
                  clear he2 hp2
                  have hi10i : ¬ ((i : Int) ≤ 10) := by omega
                  have hi10d : decide ((i : Int) ≤ 10) = false := by simp; omega
                  go_wp2_with fail
                  refine HE1.out.mono ?_
                  rintro e w8 ⟨rfl, hk8⟩
                  have hq1 := Lib.run_eql_slice_nil (P := Try.prog) w8 24 5 none 0 0 0 0 Try.underlying24
                  clear c0 c1 c2 c3 c4 c5
                  obtain ⟨c0, c1, c2, c3, c4, c5⟩ := rec_cells (row_keep HZ9.out hk8)
                  have K8 := Lib.hid hk8
                  clear hk8
                  go_wp2_with fail
                  refine (HE2.out _ (HRZ9.out.keep K8.out)).mono ?_
                  rintro e w9 ⟨rfl, hk9⟩
                  have hq2 := Lib.run_eql_slice_nil (P := Try.prog) w9 24 5 none 0 0 0 0 Try.underlying24
                  have K9 := Lib.hid hk9
                  clear hk9
                  go_wp2_with fail
                  go_ret
                  exact ⟨rfl, KW9.out.trans' (K8.out.trans' K9.out)⟩
            · have hzF : ∀ g, blockOf bo = some g → ¬ g = Z := fun g hg e => by have := hn5 g hg; omega
              have hkB : Keep (fun x => x = Z) wr (wr.setCell ⟨Z, 0, none⟩ (.int .i64 7)) := (Keep.refl (fun x => x = Z) wr).setCell (p := ⟨Z, 0, none⟩) (fun _ => rfl) (.int .i64 7)
              have hpz : ∀ g, blockOf ao = some g → ¬ g = Z := fun g hg e => by have := HQ.out.own.lt g (by rw [own_blk]; exact hg); have := HQ2.out.old; omega
              have hRA2 := hRA.keepZ hkB hpz nofun
              have hRZ2 : RecAt (wr.setCell ⟨Z, 0, none⟩ (.int .i64 7)) ⟨7, 4294967297, 0, false, [], putsL i⟩ none 0 bo bp := ⟨in_small (x := 7) (by decide), in_small (x := 4294967297) (by decide), in_small (x := 0) (by decide), SlI.nil _, hRZ.puts.keep hkB hzF⟩
              have hrA2 : (wr.setCell ⟨Z, 0, none⟩ (.int .i64 7)).heap[A]? = some (.cells (recCells 6 34359738369 0 false (.slice ao j cp) (.slice none 0 0)) 38 (0, 0)) := by rw [hkB.block A (lt_of_heap hrA) (by omega)]; exact hrA
              have hrZ2 : (wr.setCell ⟨Z, 0, none⟩ (.int .i64 7)).heap[Z]? = some (.cells (recCells 7 4294967297 0 false (.slice none 0 0) (.slice bo i bp)) 38 (0, 0)) := set1 hrZ (.int .i64 7)
              have hKW2 : Keep NoF w (wr.setCell ⟨Z, 0, none⟩ (.int .i64 7)) := hKW.trans hkB (fun _ _ f => f) (fun x hx e => by omega)
              have hfz := free_of_heap hrZ 0
              have c0 := cell_of_heap hrZ 0
              simp [recCells] at c0
              clear hRA hRZ hrA hrZ hKW hkB hzF hpz
              go_upto_region 18 with fail
              show Code.wp _ _ _ _ (wr.setCell ⟨Z, 0, none⟩ (.int .i64 7))
              clear hfz c0
              generalize wr.setCell ⟨Z, 0, none⟩ (.int .i64 7) = WN at hRA2 hRZ2 hrA2 hrZ2 hKW2 ⊢
              have HRA9 := Lib.hid hRA2; have HRZ9 := Lib.hid hRZ2; have HZ9 := Lib.hid hrZ2; have KW9 := Lib.hid hKW2
              obtain ⟨c0, c1, c2, c3, c4, c5⟩ := rec_cells hrA2
              have hp1 := parts_ok j (by omega)
              have hp2 := puts_ok7 i (by omega)
              have PL := partsL_length j
              have UL := putsL_length i
              clear hRA2 hRZ2 hrZ2 hKW2 hrA2
              rcases hj with rfl | ⟨hj1, hj7⟩ | ⟨hj1, hj7⟩
              · replace hp1 : recB ⟨6, 34359738369, 0, false, partsL 0, []⟩ = false := by rw [hp1]; simp
                have he1 := encode_f 6 34359738369 0 false (partsL 0) [] ao cp none 0 hp1 WN HRA9.out
                simp only [PL, List.length_nil] at he1
                have HE1 := Lib.hid he1
                clear he1 hp1
                rcases hi2 with hi10 | hi10
                · replace hp2 : recB ⟨7, 4294967297, 0, false, [], putsL i⟩ = true := by rw [hp2]; simp; omega
                  obtain ⟨nf, hnf⟩ : ∃ n, (encB ⟨7, 4294967297, 0, false, [], putsL i⟩).length = n := ⟨_, rfl⟩
                  have he2 := fun W h => encode_g 7 4294967297 0 false [] (putsL i) none 0 bo bp hp2 nf hnf W h
                  clear hnf
                  simp only [UL, List.length_nil] at he2
                  have HE2 := Lib.hid he2
                  clear he2 hp2
                  have hi10i : (i : Int) ≤ 10 := by omega
                  go_wp2_with fail
                  refine HE1.out.mono ?_
                  rintro e w8 ⟨rfl, hk8⟩
                  have hq1 := Lib.run_eql_slice_nil (P := Try.prog) w8 24 5 none 0 0 0 0 Try.underlying24
                  clear c0 c1 c2 c3 c4 c5
                  obtain ⟨c0, c1, c2, c3, c4, c5⟩ := rec_cells (row_keep HZ9.out hk8)
                  have K8 := Lib.hid hk8
                  clear hk8
                  go_wp2_with fail
                  refine (HE2.out _ (HRZ9.out.keep K8.out)).mono ?_
                  rintro e w9 ⟨g2, cf, rfl, _, _, hk9, _, _⟩
                  have hq2 := Lib.run_eql_slice_nil (P := Try.prog) w9 24 5 (some ⟨g2, 0, none⟩) nf cf 0 0 Try.underlying24
                  have K9 := Lib.hid hk9
                  clear hk9
                  go_wp2_with fail
                  go_ret
                  exact ⟨rfl, KW9.out.trans' (K8.out.trans' K9.out)⟩
                · replace hp2 : recB ⟨7, 4294967297, 0, false, [], putsL i⟩ = false := by rw [hp2]; simp; omega
                  have he2 := fun W h => encode_f 7 4294967297 0 false [] (putsL i) none 0 bo bp hp2 W h
                  simp only [UL, List.length_nil] at he2
                  have HE2 := Lib.hid he2
                  clear he2 hp2
                  have hi10i : ¬ ((i : Int) ≤ 10) := by omega
                  have hi10d : decide ((i : Int) ≤ 10) = false := by simp; omega
                  go_wp2_with fail
                  refine HE1.out.mono ?_
                  rintro e w8 ⟨rfl, hk8⟩
                  have hq1 := Lib.run_eql_slice_nil (P := Try.prog) w8 24 5 none 0 0 0 0 Try.underlying24
                  clear c0 c1 c2 c3 c4 c5
                  obtain ⟨c0, c1, c2, c3, c4, c5⟩ := rec_cells (row_keep HZ9.out hk8)
                  have K8 := Lib.hid hk8
                  clear hk8
                  go_wp2_with fail
                  refine (HE2.out _ (HRZ9.out.keep K8.out)).mono ?_
                  rintro e w9 ⟨rfl, hk9⟩
                  have hq2 := Lib.run_eql_slice_nil (P := Try.prog) w9 24 5 none 0 0 0 0 Try.underlying24
                  have K9 := Lib.hid hk9
                  clear hk9
                  go_wp2_with fail
                  go_ret
                  exact ⟨rfl, KW9.out.trans' (K8.out.trans' K9.out)⟩
              · replace hp1 : recB ⟨6, 34359738369, 0, false, partsL j, []⟩ = true := by rw [hp1]; simp; omega
                obtain ⟨ne, hne⟩ : ∃ n, (encB ⟨6, 34359738369, 0, false, partsL j, []⟩).length = n := ⟨_, rfl⟩
                have he1 := encode_g 6 34359738369 0 false (partsL j) [] ao cp none 0 hp1 ne hne WN HRA9.out
                clear hne
                simp only [PL, List.length_nil] at he1
                have hj1i : (1 : Int) ≤ j := by omega
                have hj7i : (j : Int) ≤ 7 := by omega
                have HE1 := Lib.hid he1
                clear he1 hp1
                rcases hi2 with hi10 | hi10
                · replace hp2 : recB ⟨7, 4294967297, 0, false, [], putsL i⟩ = true := by rw [hp2]; simp; omega
                  obtain ⟨nf, hnf⟩ : ∃ n, (encB ⟨7, 4294967297, 0, false, [], putsL i⟩).length = n := ⟨_, rfl⟩
                  have he2 := fun W h => encode_g 7 4294967297 0 false [] (putsL i) none 0 bo bp hp2 nf hnf W h
                  clear hnf
                  simp only [UL, List.length_nil] at he2
                  have HE2 := Lib.hid he2
                  clear he2 hp2
                  have hi10i : (i : Int) ≤ 10 := by omega
                  go_wp2_with fail
                  refine HE1.out.mono ?_
                  rintro e w8 ⟨g1, ce, rfl, _, _, hk8, _, _⟩
                  have hq1 := Lib.run_eql_slice_nil (P := Try.prog) w8 24 5 (some ⟨g1, 0, none⟩) ne ce 0 0 Try.underlying24
                  clear c0 c1 c2 c3 c4 c5
                  obtain ⟨c0, c1, c2, c3, c4, c5⟩ := rec_cells (row_keep HZ9.out hk8)
                  have K8 := Lib.hid hk8
                  clear hk8
                  go_wp2_with fail
                  refine (HE2.out _ (HRZ9.out.keep K8.out)).mono ?_
                  rintro e w9 ⟨g2, cf, rfl, _, _, hk9, _, _⟩
                  have hq2 := Lib.run_eql_slice_nil (P := Try.prog) w9 24 5 (some ⟨g2, 0, none⟩) nf cf 0 0 Try.underlying24
                  have K9 := Lib.hid hk9
                  clear hk9
                  go_wp2_with fail
                  go_ret
                  exact ⟨rfl, KW9.out.trans' (K8.out.trans' K9.out)⟩
                · replace hp2 : recB ⟨7, 4294967297, 0, false, [], putsL i⟩ = false := by rw [hp2]; simp; omega
                  have he2 := fun W h => encode_f 7 4294967297 0 false [] (putsL i) none 0 bo bp hp2 W h
                  simp only [UL, List.length_nil] at he2
                  have HE2 := Lib.hid he2
                  clear he2 hp2
                  have hi10i : ¬ ((i : Int) ≤ 10) := by omega
                  have hi10d : decide ((i : Int) ≤ 10) = false := by simp; omega
                  go_wp2_with fail
                  refine HE1.out.mono ?_
                  rintro e w8 ⟨g1, ce, rfl, _, _, hk8, _, _⟩
                  have hq1 := Lib.run_eql_slice_nil (P := Try.prog) w8 24 5 (some ⟨g1, 0, none⟩) ne ce 0 0 Try.underlying24
                  clear c0 c1 c2 c3 c4 c5
                  obtain ⟨c0, c1, c2, c3, c4, c5⟩ := rec_cells (row_keep HZ9.out hk8)
                  have K8 := Lib.hid hk8
                  clear hk8
                  go_wp2_with fail
                  refine (HE2.out _ (HRZ9.out.keep K8.out)).mono ?_
                  rintro e w9 ⟨rfl, hk9⟩
                  have hq2 := Lib.run_eql_slice_nil (P := Try.prog) w9 24 5 none 0 0 0 0 Try.underlying24
                  have K9 := Lib.hid hk9
                  clear hk9
                  go_wp2_with fail
                  go_ret
                  exact ⟨rfl, KW9.out.trans' (K8.out.trans' K9.out)⟩
              · replace hp1 : recB ⟨6, 34359738369, 0, false, partsL j, []⟩ = false := by rw [hp1]; simp; omega
                have he1 := encode_f 6 34359738369 0 false (partsL j) [] ao cp none 0 hp1 WN HRA9.out
                simp only [PL, List.length_nil] at he1
                have hj1i : (1 : Int) ≤ j := by omega
                have hj7i : ¬ ((j : Int) ≤ 7) := by omega
                have hj7d : decide ((j : Int) ≤ 7) = false := by simp; omega
                have HE1 := Lib.hid he1
                clear he1 hp1
                rcases hi2 with hi10 | hi10
                · replace hp2 : recB ⟨7, 4294967297, 0, false, [], putsL i⟩ = true := by rw [hp2]; simp; omega
                  obtain ⟨nf, hnf⟩ : ∃ n, (encB ⟨7, 4294967297, 0, false, [], putsL i⟩).length = n := ⟨_, rfl⟩
                  have he2 := fun W h => encode_g 7 4294967297 0 false [] (putsL i) none 0 bo bp hp2 nf hnf W h
                  clear hnf
                  simp only [UL, List.length_nil] at he2
                  have HE2 := Lib.hid he2
                  clear he2 hp2
                  have hi10i : (i : Int) ≤ 10 := by omega
                  go_wp2_with fail
                  refine HE1.out.mono ?_
                  rintro e w8 ⟨rfl, hk8⟩
                  have hq1 := Lib.run_eql_slice_nil (P := Try.prog) w8 24 5 none 0 0 0 0 Try.underlying24
                  clear c0 c1 c2 c3 c4 c5
                  obtain ⟨c0, c1, c2, c3, c4, c5⟩ := rec_cells (row_keep HZ9.out hk8)
                  have K8 := Lib.hid hk8
                  clear hk8
                  go_wp2_with fail
                  refine (HE2.out _ (HRZ9.out.keep K8.out)).mono ?_
                  rintro e w9 ⟨g2, cf, rfl, _, _, hk9, _, _⟩
                  have hq2 := Lib.run_eql_slice_nil (P := Try.prog) w9 24 5 (some ⟨g2, 0, none⟩) nf cf 0 0 Try.underlying24
                  have K9 := Lib.hid hk9
                  clear hk9
                  go_wp2_with fail
                  go_ret
                  exact ⟨rfl, KW9.out.trans' (K8.out.trans' K9.out)⟩
                · replace hp2 : recB ⟨7, 4294967297, 0, false, [], putsL i⟩ = false := by rw [hp2]; simp; omega
                  have he2 := fun W h => encode_f 7 4294967297 0 false [] (putsL i) none 0 bo bp hp2 W h
                  simp only [UL, List.length_nil] at he2
                  have HE2 := Lib.hid he2
                  clear he2 hp2
                  have hi10i : ¬ ((i : Int) ≤ 10) := by omega
                  have hi10d : decide ((i : Int) ≤ 10) = false := by simp; omega
                  go_wp2_with fail
                  refine HE1.out.mono ?_
                  rintro e w8 ⟨rfl, hk8⟩
                  have hq1 := Lib.run_eql_slice_nil (P := Try.prog) w8 24 5 none 0 0 0 0 Try.underlying24
                  clear c0 c1 c2 c3 c4 c5
                  obtain ⟨c0, c1, c2, c3, c4, c5⟩ := rec_cells (row_keep HZ9.out hk8)
                  have K8 := Lib.hid hk8
                  clear hk8
                  go_wp2_with fail
                  refine (HE2.out _ (HRZ9.out.keep K8.out)).mono ?_
                  rintro e w9 ⟨rfl, hk9⟩
                  have hq2 := Lib.run_eql_slice_nil (P := Try.prog) w9 24 5 none 0 0 0 0 Try.underlying24
                  have K9 := Lib.hid hk9
                  clear hk9
                  go_wp2_with fail
                  go_ret
                  exact ⟨rfl, KW9.out.trans' (K8.out.trans' K9.out)⟩

set_option linter.unusedVariables false
set_option maxRecDepth 100000 in
theorem lifted (os : Os) (started : os.Started) (H : Type) (enc : TypeId × Value → H) :
    ReturnsInHanded {} Try.checked os 13 .any (Rows.recPartsSpec.pre6 enc Try.prog Try.f13 Rows.recPartsRow.domain false) (Rows.recPartsSpec.post enc Try.prog Try.f13 false true false false) := by
  refine returnsInHanded_of_change (C := Try.checked) own started (by kernel_rfl) Try.func13
    (ChangeSpec.witness6 (enc := enc) (C := Try.checked) false ⟨#[], #[.int .i64 0, .int .i64 0, .bool false], []⟩ 8 (by kernel_rfl) (by kernel_rfl) (by kernel_rfl) (by kernel_rfl)) ?_
  intro W base args ds gs before hval0 hW hcnd _
  have hval : ∀ (j : Nat) t v, Try.f13.params[j]? = some t → args[j]? = some v → Value.okWide Try.prog W .any base t v := hval0
  have hW' := hW
  obtain ⟨p, q, hA0, hV, rfl, hfz, hnd⟩ := hW
  have hA : DataW.TrodAll enc Try.prog W 0 (fun _ => true) true Try.f13.params.toList args.toList ds p := hA0
  rw [Try.params13] at hA hval
  obtain ⟨v0, vs0, d0, ds0, p0, q0, hargs, rfl, rfl, h0, r0⟩ := trodAll_cons hA
  obtain ⟨v1, vs1, d1, ds1, p1, q1, rfl, rfl, rfl, h1, r1⟩ := trodAll_cons r0
  obtain ⟨v2, vs2, d2, ds2, p2, q2, rfl, rfl, rfl, h2, r2⟩ := trodAll_cons r1
  obtain ⟨rfl, rfl, rfl⟩ := trodAll_nil r2
  obtain rfl : args = #[v0, v1, v2] := by cases args; simp_all
  obtain ⟨rfl, rfl⟩ := trodVars_none hV
  obtain ⟨a0, rfl, rfl, rfl, w0⟩ := open_int Try.underlying3 (hval 0 3 v0 rfl rfl) h0
  obtain ⟨a1, rfl, rfl, rfl, w1⟩ := open_int Try.underlying3 (hval 1 3 v1 rfl rfl) h1
  obtain ⟨a2, rfl, rfl, rfl⟩ := open_bool Try.underlying4 (hval 2 4 v2 rfl rfl) h2
  clear hA0 hval0
  refine (walk W a0 w0 a1 w1 a2).mono fun e W' ⟨he, hk⟩ => ?_
  subst he
  have bel := Keep.below hk
  exact ⟨_, rfl, _, _, _, [], _, [], hW', trodAll_mk1 (shut_bool Try.underlying4 _), (trodAll_cons_mk (shut_int Try.underlying3 w0) (trodAll_cons_mk (shut_int Try.underlying3 w1) (trodAll_cons_mk (shut_bool Try.underlying4 a2) trodAll_mk0))), rfl, bel.frame _, fun h => by cases h⟩

theorem over : Rows.recPartsRow.holds Try.pinned (OpenSpec.ofChange Rows.recPartsSpec) :=
  OpenClaim.holds_of_wide 13 Try.f13 rfl rfl rfl rfl rfl rfl rfl ⟨rfl, rfl, rfl, rfl, rfl⟩ rfl rfl rfl rfl rfl (by kernel_rfl) Try.func13 (by kernel_rfl)
    (of_decide_eq_true (by kernel_rfl)) (by unfold Func.isWrapper; rw [if_neg (of_decide_eq_false (by kernel_rfl))]; exact ⟨rfl, rfl⟩)
    (fun os started H enc _ => lifted os started H enc)

/-- The statement. -/
theorem proved : Rows.RecPartsSaid := over
#print axioms proved
end Go.Proofs.Ytgbogbjifpijkaa.recParts
