/- TimerAges: the law returns true and changes nothing that was there. No conditions. -/
import Derived.Test.YtidpfkehmokdfaaArgs6
import Derived.Test.YtidpfkehmokdfaaTim2S
import Derived.Laws.IdiomStrings
import Derived.Deep.CutRange
import Derived.Deep.RegionHeld
import Derived.Test.YtidpfkehmokdfaaRows
import Derived.WalkKit
import Derived.ProofKit
import Derived.OpenShut
import Derived.ShutString
import Derived.ChangeOld
import Derived.Below
namespace Go.Proofs.Ytidpfkehmokdfaa.timerAges
open Go Go.ChangeShapes Go.WideShapes Go.ChangeAt Go.RowKit
open Go.ChangeMaps (open_string shut_string)

theorem own : ownKnob Try.prog.godebug = none := by kernel_rfl
theorem laidOut : laidOutB Try.prog = true := by kernel_rfl

open Go.Proofs Go.RowKit Go.Maps Go.Sort Go.Shelf
/-- The name of the k-th. -/
def nm (i : Nat) : List UInt8 := [UInt8.ofNat (97 + i)]
theorem nm_len (i : Nat) : (nm i).length ≤ maxLen := by simp [nm]; decide
theorem nm_inj {i j : Nat} (hi : i < 4) (hj : j < 4) (h : nm i = nm j) : i = j := by
  simp only [nm, List.cons.injEq, and_true] at h
  have := congrArg UInt8.toNat h
  simp at this
  omega
theorem conv1 {P : Program} {src dst e T : TypeId} (hs : P.underlying src = some (.slice e)) (he : P.underlying e = some (.int .u8)) (hd : P.underlying dst = some .string) (W : World) (y : Int) (n : Nat) (hy : y = ((97 + n : Nat) : Int)) :
    (convert src dst (.slice (some ⟨W.heap.size, 0, none⟩) 1 1)).run P (W.alloc (.cells #[.int .u8 y] T (0, 0))) = .ok (encStr (nm n)) (W.alloc (.cells #[.int .u8 y] T (0, 0))) := by
  subst hy
  rw [run_convert_bytes_string _ src dst e _ _ _ hs he hd, run_bytesToString _ _ _ _ [((97 + n : Nat) : Int)]]
  · rfl
  · have := run_loadCells_list (P := P) (w := W.alloc (.cells #[.int .u8 ((97 + n : Nat) : Int)] T (0, 0))) ⟨W.heap.size, 0, none⟩ [.int .u8 ((97 + n : Nat) : Int)] (by
      intro j v hv
      have hj : j = 0 := by
        rcases j with _ | j
        · rfl
        · simp at hv
      subst hj
      simp at hv
      subst hv
      have hb := heap_new W (.cells #[.int .u8 ((97 + n : Nat) : Int)] T (0, 0))
      rw [show (Addr.mk W.heap.size 0 none).add 0 = ⟨W.heap.size, 0, none⟩ by simp [Addr.add], cell_of_heap hb 0]
      rfl)
    exact this
/-- The law's own list of who spoke last when. -/
def LM (w : World) (g : Nat) (L : List Int) : Prop := w.heap[g]? = some (.cells (L.map (Value.int .i64)).toArray 48 (0, 0))
theorem LM.cell {w : World} {g : Nat} {L : List Int} (h : LM w g L) (j : Nat) (hj : j < L.length) : w.cell? ⟨g, j, none⟩ = some (.int .i64 L[j]) := by
  rw [cell_of_heap h j]; simp [hj]
theorem LM.set {w : World} {g : Nat} {L : List Int} (h : LM w g L) (j : Nat) (x : Int) : LM (w.setCell ⟨g, j, none⟩ (.int .i64 x)) g (L.set j x) := by
  unfold LM at h ⊢
  simp [World.setCell, Array.getElem?_modify, h, List.map_set]
theorem LM.keep {F : Nat → Prop} {w w' : World} {g : Nat} {L : List Int} (h : LM w g L) (hk : Keep F w w') (hg : ¬ F g) : LM w' g L := by
  unfold LM at h ⊢; rw [hk.block g (lt_of_heap h) hg]; exact h
theorem LM.cellD {w : World} {g : Nat} {L : List Int} (h : LM w g L) (j : Nat) (hj : j < L.length) : w.cell? ⟨g, j, none⟩ = some (.int .i64 (L.getD j (-1))) := by
  rw [h.cell j hj, List.getD_eq_getElem?_getD, List.getElem?_eq_getElem hj]; rfl
def KsL (L : List Int) (ks : List (List UInt8)) : Prop := ∀ x, x ∈ ks ↔ ∃ k, k < 4 ∧ 0 ≤ L.getD k (-1) ∧ x = nm k
def FsL (L : List Int) (f : List UInt8 → Int) (i : Int) : Prop := ∀ k, k < 4 → 0 ≤ L.getD k (-1) → f (nm k) = i - L.getD k (-1)
def lateK (L : List Int) (i : Int) (k : Nat) : Bool := decide (0 ≤ L.getD k (-1)) && decide (5 ≤ i + 1 - L.getD k (-1))
theorem srt_perm {L : List Int} {ks : List (List UInt8)} (h : KsL L ks) : (srtS ks).Perm (((List.range 4).filter fun k => decide (0 ≤ L.getD k (-1))).map nm) := by
  refine (List.perm_ext_iff_of_nodup (nodup_srtS ks) ?_).2 fun x => ?_
  · rw [List.nodup_iff_pairwise_ne, List.pairwise_map]
    refine List.Pairwise.imp_of_mem ?_ (List.Pairwise.filter _ List.nodup_range)
    intro a b ha hb hab e
    have ha2 := List.mem_range.1 (List.mem_filter.1 ha).1
    have hb2 := List.mem_range.1 (List.mem_filter.1 hb).1
    exact hab (nm_inj ha2 hb2 e)
  · rw [mem_srtS, h x, List.mem_map]
    constructor
    · rintro ⟨k, h1, h2, rfl⟩
      exact ⟨k, List.mem_filter.2 ⟨List.mem_range.2 h1, by simpa using h2⟩, rfl⟩
    · rintro ⟨k, hk, rfl⟩
      obtain ⟨h1, h2⟩ := List.mem_filter.1 hk
      exact ⟨k, List.mem_range.1 h1, by simpa using h2, rfl⟩
theorem srt_len {L : List Int} {ks : List (List UInt8)} (h : KsL L ks) : (srtS ks).length ≤ 4 := by
  rw [(srt_perm h).length_eq, List.length_map]
  exact Nat.le_trans (List.length_filter_le _ _) (by simp)
theorem late_len {L : List Int} {ks : List (List UInt8)} {f : List UInt8 → Int} {i : Int} (h : KsL L ks) (hf : FsL L f i) : (lateS 5 ks f).length = ((List.range 4).filter (lateK L i)).length := by
  unfold lateS
  rw [((srt_perm h).filter _).length_eq, List.filter_map, List.length_map, List.filter_filter]
  congr 1
  refine List.filter_congr fun k hk => ?_
  have hk4 := List.mem_range.1 hk
  unfold lateK
  by_cases h0 : 0 ≤ L.getD k (-1)
  · have hfk := hf k hk4 h0
    simp only [Function.comp, hfk, h0, decide_true, Bool.and_true, Bool.true_and, decide_eq_decide]
    omega
  · have hd : decide (0 ≤ L.getD k (-1)) = false := decide_eq_false h0
    rw [hd, Bool.and_false, Bool.false_and]
theorem ks_set {L : List Int} {ks : List (List UInt8)} (hL : L.length = 4) (h : KsL L ks) (k : Nat) (hk : k < 4) (i : Int) (hi : 0 ≤ i) : KsL (L.set k i) (nm k :: ks) := by
  intro x
  rw [List.mem_cons, h x]
  constructor
  · rintro (rfl | ⟨j, h1, h2, rfl⟩)
    · exact ⟨k, hk, by simp [List.getD_eq_getElem?_getD, hL, hk, hi], rfl⟩
    · refine ⟨j, h1, ?_, rfl⟩
      by_cases e : k = j
      · subst e; simp [List.getD_eq_getElem?_getD, hL, hk, hi]
      · simpa [List.getD_eq_getElem?_getD, List.getElem?_set_ne e] using h2
  · rintro ⟨j, h1, h2, rfl⟩
    by_cases e : k = j
    · subst e; exact .inl rfl
    · refine .inr ⟨j, h1, ?_, rfl⟩
      simpa [List.getD_eq_getElem?_getD, List.getElem?_set_ne e] using h2
theorem fs_set {L : List Int} {f : List UInt8 → Int} {i : Int} (hL : L.length = 4) (h : FsL L f i) (k : Nat) (hk : k < 4) : FsL (L.set k i) (fun z => if z = nm k then 0 else f z) i := by
  intro j h1 h2
  by_cases e : k = j
  · subst e; simp [List.getD_eq_getElem?_getD, hL, hk]
  · have hne : ¬ nm j = nm k := fun e2 => e (nm_inj hk h1 e2.symm)
    show (if nm j = nm k then (0 : Int) else f (nm j)) = _
    rw [if_neg hne]
    have e3 : (L.set k i).getD j (-1) = L.getD j (-1) := by simp [List.getD_eq_getElem?_getD, List.getElem?_set_ne e]
    rw [e3] at h2 ⊢
    exact h j h1 h2
def RgL (L : List Int) (i : Int) : Prop := ∀ k, k < 4 → -1 ≤ L.getD k (-1) ∧ L.getD k (-1) < i
def StA (w : World) (p m gl i : Nat) (wr : World) : Prop :=
  ∃ L ks f, L.length = 4 ∧ RgL L i ∧ LM wr gl L ∧ TimS wr p m (5 * i) 5 ks f ∧ KsL L ks ∧ FsL L f i ∧ Keep NoF w wr
def StB (w : World) (p m gl i : Nat) (wr : World) : Prop :=
  ∃ L ks f, L.length = 4 ∧ RgL L (i + 1) ∧ LM wr gl L ∧ TimS wr p m (5 * i + 1) 5 ks f ∧ KsL L ks ∧ FsL L f i ∧ Keep NoF w wr
theorem lateK_succ (L : List Int) (i : Int) (j : Nat) : ((((List.range (j + 1)).filter (lateK L i)).length : Nat) : Int) = (((List.range j).filter (lateK L i)).length : Nat) + (if lateK L i j = true then 1 else 0) := by
  rw [List.range_succ, List.filter_append, List.length_append]
  by_cases h : lateK L i j = true
  · simp [h]
  · simp [h]
theorem wp_phi {P : Program} {c : Code} {Q : Exit → Act → World → Prop} {a : Act} {φ : World → Prop} {W : World} (hW : φ W) (h : ∀ W', φ W' → Code.wp P c Q a W') : Code.wp P c Q a W := h W hW
set_option maxHeartbeats 8000000 in
set_option maxRecDepth 4000 in
theorem walk (w : World) (a0 : Option Addr) (len0 cap0 : Nat) (z0 : List Int) (h0 : IsRow .i64 w a0 len0 cap0 z0) (t0 : Int) (ht0 : (Lit.int .i64 t0).wf = true) :
    Calls Try.prog 6 #[.slice a0 len0 cap0, .int .i64 t0] w fun e w' => e = .returned (.bool true) ∧ Keep NoF w w' := by
  obtain ⟨l, hl, hwf, sl⟩ := h0.slG
  subst hl
  have c0 := sl.1; have c0m := sl.2.1
  unfold maxLen at c0m
  have SL := Lib.hid sl; have HWF := Lib.hid hwf
  have hb2 := bounds_i64 ht0
  clear h0 sl hwf ht0
  go_enter Try.func6, Try.ntmps6
  go_wp2_with fail
  refine (begun6_any w).mono ?_
  rintro e w1 ⟨rfl, hk⟩
  have K1 := Lib.hid hk
  clear hk
  by_cases h1 : t0 < 0
  · have h1d : decide (t0 < 0) = true := by simp [h1]
    go_wp2_with fail
    go_ret
    exact ⟨rfl, K1.out⟩
  · have h1d : decide (t0 < 0) = false := by simp [h1]
    by_cases h2 : 30 < t0
    · have h2d : decide (30 < t0) = true := by simp [h2]
      go_wp2_with fail
      go_ret
      exact ⟨rfl, K1.out⟩
    · have h2d : decide (30 < t0) = false := by simp [h2]
      obtain ⟨n, rfl⟩ : ∃ n : Nat, t0 = n := ⟨t0.toNat, by omega⟩
      go_wp2_with fail
      refine (newTimS_any 5 w1).mono ?_
      rintro e w2 ⟨p, m, rfl, hT, hk, hp, hm⟩
      have HT2 := Lib.hid hT; have K2 := Lib.hid (K1.out.trans' hk)
      have hs1 := K1.out.size
      have hwm : w.heap.size ≤ m := by omega
      have hltm := hT.lt
      clear hT hk hp hm hs1
      obtain ⟨gl, hgl⟩ : ∃ gl, w2.heap.size = gl := ⟨_, rfl⟩
      have hlm : LM (w2.alloc (.cells #[.int .i64 0, .int .i64 0, .int .i64 0, .int .i64 0] 48 (0, 0))) gl [0, 0, 0, 0] := by
        have := heap_new w2 (.cells #[.int .i64 0, .int .i64 0, .int .i64 0, .int .i64 0] 48 (0, 0))
        rw [hgl] at this
        exact this
      have hglm : ¬ gl = m := by omega
      have hglp : ¬ gl = p := by omega
      have hwgl : w.heap.size ≤ gl := by have := K2.out.size; omega
      have HLM := Lib.hid hlm
      clear hlm hltm
      go_wp2_with fail
      refine wp_phi (φ := fun W => Keep NoF w2 W ∧ LM W gl [0, 0, 0, 0]) ⟨(Keep.refl NoF w2).alloc _, HLM.out⟩ ?_
      rintro w3 ⟨hk, hlm⟩
      have K3 := Lib.hid (K2.out.trans' hk); have HT3 := Lib.hid (HT2.out.keep hk (fun f => f) (fun f => f))
      clear HLM
      have HLM := Lib.hid hlm
      clear hk hlm
      go_loopw [26] (fun kv wr => ∃ k : Nat, k ≤ 4 ∧ kv = .int .i64 k ∧ LM wr gl (List.replicate k (-1) ++ List.replicate (4 - k) 0) ∧ Keep (fun j => j = gl) w3 wr) (fun kv _ => 4 - (intOf kv).toNat)
      case atStart => exact ⟨0, by omega, rfl, HLM.out, Keep.refl _ _⟩
      case round =>
        obtain ⟨k, hk, rfl, hlm, hkw⟩ := hrel
        have HLK := Lib.hid hlm; have HKW := Lib.hid hkw
        clear hlm hkw
        by_cases hlt : k < 4
        · have hlt2 : (k : Int) < 4 := by omega
          have dl := HLK.out.cell k (by simp; omega)
          have hfz : wr.frozen? ⟨gl, k, none⟩ = false := free_of_heap HLK.out k
          have HSET : Hid (LM (wr.setCell ⟨gl, k, none⟩ (.int .i64 (-1))) gl (List.replicate (k + 1) (-1) ++ List.replicate (4 - (k + 1)) 0)) := Lib.hid (by
            have h := HLK.out.set k (-1)
            have e : (List.replicate k (-1) ++ List.replicate (4 - k) (0 : Int)).set k (-1) = List.replicate (k + 1) (-1) ++ List.replicate (4 - (k + 1)) 0 := by
              have hk4 : k = 0 ∨ k = 1 ∨ k = 2 ∨ k = 3 := by omega
              rcases hk4 with rfl | rfl | rfl | rfl <;> rfl
            rw [e] at h; exact h)
          go_wp2_with fail
          go_roundw
          case rel => exact ⟨k + 1, by omega, by go_num, HSET.out, HKW.out.setCell (fun _ => rfl) _⟩
          case measure => simp [intOf]; omega
        · have hlt2 : ¬ (k : Int) < 4 := by omega
          obtain rfl : k = 4 := by omega
          have HT4 := Lib.hid (HT3.out.keep HKW.out (fun e => hglp e.symm) (fun e => hglm e.symm))
          have K4 := Lib.hid (K3.out.trans HKW.out (fun _ _ f => f) (fun j hj f => by omega))
          have HL4 : Hid (LM wr gl [-1, -1, -1, -1]) := Lib.hid HLK.out
          clear HLK HKW HT3 K3 HLM
          go_wp2_with fail
          go_loopw [9] (fun iv wr => ∃ i : Nat, i ≤ n ∧ iv = .int .i64 i ∧ StA w p m gl i wr) (fun iv _ => n - (intOf iv).toNat)
          case atStart =>
            have hL : ∀ k, k < 4 → ([-1, -1, -1, -1] : List Int).getD k (-1) = -1 := by decide
            exact ⟨0, Nat.zero_le _, rfl, [-1, -1, -1, -1], [], _, rfl, fun k hk => by rw [hL k hk]; omega, HL4.out, HT4.out, fun x => by simp; intro k hk h; rw [← List.getD_eq_getElem?_getD, hL k hk] at h; omega, fun k hk h => by rw [hL k hk] at h; omega, K4.out⟩
          case round =>
            obtain ⟨i, hi, rfl, L, ks, f, hL, hrg, hlm, hT, hks, hfs, hkw⟩ := hrel
            have HLM := Lib.hid hlm; have HT := Lib.hid hT; have HKS := Lib.hid hks; have HFS := Lib.hid hfs; have KW := Lib.hid hkw; have HRG := Lib.hid hrg; have HLL := Lib.hid hL
            clear hlm hT hks hfs hkw hrg hL HT4 K4 HL4
            by_cases hlt : i < n
            · have hlt2 : (i : Int) < n := by omega
              by_cases hsp : i < l.length
              · have hsp1 : (i : Int) < l.length := by omega
                have hsp3 : decide (l.length ≤ i) = false := by simp; omega
                obtain ⟨g1, o1, rfl, d1⟩ := (SL.out.keep KW.out (fun _ _ f => f)).2.2 i hsp
                have hxb := bounds_i64 (HWF.out _ (List.getElem_mem hsp))
                generalize l[i] = x at d1 hxb
                obtain ⟨r, hr⟩ : ∃ r, x.tmod 4 = r := ⟨_, rfl⟩
                have hrb := tmod_bounds x 4 (by omega)
                rw [hr] at hrb
                obtain ⟨k, hk⟩ : ∃ k : Nat, (r + 4).tmod 4 = k := ⟨((r + 4).tmod 4).toNat, by have := tmod_bounds (r + 4) 4 (by omega); rw [Int.tmod_eq_emod_of_nonneg (by omega)] at this ⊢; have := Int.emod_nonneg (r + 4) (b := 4) (by omega); omega⟩
                have hk4 : k < 4 := by have := tmod_bounds (r + 4) 4 (by omega); omega
                have hk5 : (k : Int) < 4 := by omega
                have dl := HLM.out.cellD k (by rw [HLL.out]; exact hk4)
                have hbq : (!decide (nm k ∈ ks)) = decide (L.getD k (-1) < 0) := by
                  have hkk := HKS.out (nm k)
                  rw [Bool.eq_iff_iff]
                  simp only [Bool.not_eq_true', decide_eq_false_iff_not, decide_eq_true_eq, hkk]
                  constructor
                  · intro h
                    by_cases h2 : L.getD k (-1) < 0
                    · exact h2
                    · exact absurd ⟨k, hk4, by omega, rfl⟩ h
                  · rintro h ⟨j, h1, h2, e⟩
                    have := nm_inj hk4 h1 e
                    subst this; omega
                have hheard := fun W hW => heardS_any p m (5 * i) 5 ks f (nm k) (nm_len k) W hW (by omega)
                rw [hbq] at hheard
                generalize L.getD k (-1) = v at dl hheard
                obtain ⟨bq, hb3⟩ : ∃ bq, decide (v < 0) = bq := ⟨_, rfl⟩
                rw [hb3] at hheard
                have hne : (bq != bq) = false := by simp
                have HHEARD := Lib.hid hheard
                obtain ⟨y1, hy1⟩ : ∃ y : Int, 97 + (k : Int) = y := ⟨_, rfl⟩
                obtain ⟨y, hy⟩ : ∃ y : Int, IntKind.wrap .u8 y1 = y := ⟨_, rfl⟩
                have hwy : IntKind.wrap .i64 (97 + (k : Int)) = 97 + (k : Int) := by rw [IntKind.wrap_i64]; omega
                have hwy1 : IntKind.wrap .i64 y1 = y1 := by rw [IntKind.wrap_i64]; omega
                have hcv : (convert 49 9 (.slice (some ⟨wr.heap.size, 0, none⟩) 1 1)).run Try.prog (wr.alloc (.cells #[.int .u8 y] 5 (0, 0))).drew = .ok (encStr (nm k)) (wr.alloc (.cells #[.int .u8 y] 5 (0, 0))).drew :=
                  conv1 (P := Try.prog) (src := 49) (dst := 9) (e := 5) (T := 5) Try.underlying49 Try.underlying5 Try.underlying9 wr.drew y k (by
                    have h2 : IntKind.wrap .u8 y1 = y1 % 256 := rfl
                    omega)
                have DL : Hid (wr.drew.cell? ⟨gl, k, none⟩ = some (.int .i64 v)) := Lib.hid dl
                have KA : Hid (Keep NoF wr.drew (wr.alloc (.cells #[.int .u8 y] 5 (0, 0))).drew) := Lib.hid ((Keep.refl NoF wr.drew).alloc (.cells #[.int .u8 y] 5 (0, 0)))
                have TA : Hid (TimS (wr.alloc (.cells #[.int .u8 y] 5 (0, 0))).drew p m (5 * i) 5 ks f) := Lib.hid (HT.out.keep (((Keep.refl NoF wr).alloc (.cells #[.int .u8 y] 5 (0, 0))).drew) (fun f => f) (fun f => f))
                have KAw : Hid (Keep NoF wr (wr.alloc (.cells #[.int .u8 y] 5 (0, 0))).drew) := Lib.hid (((Keep.refl NoF wr).alloc (.cells #[.int .u8 y] 5 (0, 0))).drew)
                clear hheard hbq dl
                go_upto_region 18 with fail
                refine wp_region_noPanic ?_
                refine wp_region_held_drew (S := fun W' : World => W'.cell? ⟨gl, k, none⟩ = some (.int .i64 v)) (by kernel_rfl) (DL.out) (fun hHeld => ?_)
                refine wpAnyH_take (i := 0) (oi := ?oR0) (v := ?vR0) ?hiR0 (by kernel_rfl) (by kernel_rfl) (by kernel_rfl) (fun _ _ _ h => h) (Or.inl ⟨?wR0, ?yR0⟩) (by assumption) ?rR0
                case hiR0 => (simp only [List.getElem?_toArray, List.getElem?_cons_zero]; try rfl)
                case wR0 => rfl
                case yR0 => (intro w hSw; (try dsimp only at hSw); go_simp; (try with_reducible rfl))
                (try simp only [Act.put, List.setIfInBounds_toArray, List.set_cons_zero, List.set_cons_succ])
                refine wpAnyH_take (i := 1) (oi := ?oR1) (v := ?vR1) ?hiR1 (by kernel_rfl) (by kernel_rfl) (by kernel_rfl) (fun _ _ _ h => h) (Or.inl ⟨?wR1, ?yR1⟩) (by assumption) ?rR1
                case hiR1 => (simp only [List.getElem?_toArray, List.getElem?_cons_succ, List.getElem?_cons_zero]; try rfl)
                case wR1 => rfl
                case yR1 => (intro w hSw; (try dsimp only at hSw); go_simp; (try with_reducible rfl))
                (try simp only [Act.put, List.setIfInBounds_toArray, List.set_cons_zero, List.set_cons_succ])
                refine wpAnyH_take (i := 2) (oi := ?oR2) (v := ?vR2) ?hiR2 (by kernel_rfl) (by kernel_rfl) (by kernel_rfl) (fun _ _ _ h => h) (Or.inl ⟨?wR2, ?yR2⟩) (by assumption) ?rR2
                case hiR2 => (simp only [List.getElem?_toArray, List.getElem?_cons_succ, List.getElem?_cons_zero]; try rfl)
                case wR2 => rfl
                case yR2 => (intro w hSw; (try dsimp only at hSw); go_simp; (try with_reducible rfl))
                (try simp only [Act.put, List.setIfInBounds_toArray, List.set_cons_zero, List.set_cons_succ])
                refine wpAnyH_take (i := 3) (oi := ?oR3) (v := ?vR3) ?hiR3 (by kernel_rfl) (by kernel_rfl) (by kernel_rfl) (fun _ _ _ h => h) (Or.inl ⟨?wR3, ?yR3⟩) (by assumption) ?rR3
                case hiR3 => (simp only [List.getElem?_toArray, List.getElem?_cons_succ, List.getElem?_cons_zero]; try rfl)
                case wR3 => rfl
                case yR3 => (intro w hSw; (try dsimp only at hSw); go_simp; (try with_reducible rfl))
                (try simp only [Act.put, List.setIfInBounds_toArray, List.set_cons_zero, List.set_cons_succ])
                refine wpAnyH_take (i := 7) (oi := ?oR7) (v := ?vR7) ?hiR7 (by kernel_rfl) (by kernel_rfl) (by kernel_rfl) (fun _ _ _ h => h) (Or.inl ⟨?wR7, ?yR7⟩) (by assumption) ?rR7
                case hiR7 => (simp only [List.getElem?_toArray, List.getElem?_cons_succ, List.getElem?_cons_zero]; try rfl)
                case wR7 => rfl
                case yR7 => (intro w hSw; (try dsimp only at hSw); go_simp; (try with_reducible rfl))
                (try simp only [Act.put, List.setIfInBounds_toArray, List.set_cons_zero, List.set_cons_succ])
                refine wpAnyH_take (i := 8) (oi := ?oR8) (v := ?vR8) ?hiR8 (by kernel_rfl) (by kernel_rfl) (by kernel_rfl) (fun _ _ _ h => h) (Or.inl ⟨?wR8, ?yR8⟩) (by assumption) ?rR8
                case hiR8 => (simp only [List.getElem?_toArray, List.getElem?_cons_succ, List.getElem?_cons_zero]; try rfl)
                case wR8 => rfl
                case yR8 => (intro w hSw; (try dsimp only at hSw); go_simp; (try with_reducible rfl))
                (try simp only [Act.put, List.setIfInBounds_toArray, List.set_cons_zero, List.set_cons_succ])
                refine wpAnyH_take (i := 9) (oi := ?oR9) (v := ?vR9) ?hiR9 (by kernel_rfl) (by kernel_rfl) (by kernel_rfl) (fun _ _ _ h => h) (Or.inl ⟨?wR9, ?yR9⟩) (by assumption) ?rR9
                case hiR9 => (simp only [List.getElem?_toArray, List.getElem?_cons_succ, List.getElem?_cons_zero]; try rfl)
                case wR9 => rfl
                case yR9 => (intro w hSw; (try dsimp only at hSw); go_simp; (try with_reducible rfl))
                (try simp only [Act.put, List.setIfInBounds_toArray, List.set_cons_zero, List.set_cons_succ])
                refine wpAnyH_take (i := 10) (oi := ?oR10) (v := ?vR10) ?hiR10 (by kernel_rfl) (by kernel_rfl) (by kernel_rfl) (fun _ _ _ h => h) (Or.inl ⟨?wR10, ?yR10⟩) (by assumption) ?rR10
                case hiR10 => (simp only [List.getElem?_toArray, List.getElem?_cons_succ, List.getElem?_cons_zero]; try rfl)
                case wR10 => rfl
                case yR10 => (intro w hSw; (try dsimp only at hSw); go_simp; (try with_reducible rfl))
                (try simp only [Act.put, List.setIfInBounds_toArray, List.set_cons_zero, List.set_cons_succ])
                refine wpAnyH_ready (rs := [4]) (by kernel_rfl) (by simp) ?_
                refine AllReadyH.cons (o := ?oR4) ?hiR4 (fun K hK => ?_) AllReadyH.nil
                case hiR4 => (simp only [List.getElem?_toArray, List.getElem?_cons_succ, List.getElem?_cons_zero]; try rfl)
                go_simp
                refine hK.out _ _ (KA.out.cell' DL.out (fun f => f)) (fun hHeld => ?_)
                clear hK K
                (try simp only [Act.put, List.setIfInBounds_toArray, List.set_cons_zero, List.set_cons_succ])
                refine wpAnyH_ready (rs := [5]) (by kernel_rfl) (by simp) ?_
                refine AllReadyH.cons (o := ?oR5) ?hiR5 (fun K hK => ?_) AllReadyH.nil
                case hiR5 => (simp only [List.getElem?_toArray, List.getElem?_cons_succ, List.getElem?_cons_zero]; try rfl)
                go_simp
                refine hK.out _ _ (KA.out.cell' DL.out (fun f => f)) (fun hHeld => ?_)
                clear hK K
                (try simp only [Act.put, List.setIfInBounds_toArray, List.set_cons_zero, List.set_cons_succ])
                refine wpAnyH_ready (rs := [6]) (by kernel_rfl) (by simp) ?_
                refine AllReadyH.cons (o := ?oR6) ?hiR6 (fun K hK => ?_) AllReadyH.nil
                case hiR6 => (simp only [List.getElem?_toArray, List.getElem?_cons_succ, List.getElem?_cons_zero]; try rfl)
                go_simp
                (go_at_call 27; refine (HHEARD.out _ TA.out).mono ?_; rintro e w8 ⟨rfl, hT8, hk8⟩; have HT8 := Lib.hid hT8; have HK8 := Lib.hid hk8; clear hT8 hk8)
                go_wp2_with fail
                refine hK.out _ _ (HK8.out.cell' (KA.out.cell' DL.out (fun f => f)) hglm) (fun hHeld => ?_)
                clear hK K
                (try simp only [Act.put, List.setIfInBounds_toArray, List.set_cons_zero, List.set_cons_succ])
                refine wpAnyH_take (i := 11) (oi := ?oR11) (v := ?vR11) ?hiR11 (by kernel_rfl) (by kernel_rfl) (by kernel_rfl) (fun _ _ _ h => h) (Or.inl ⟨?wR11, ?yR11⟩) (by assumption) ?rR11
                case hiR11 => (simp only [List.getElem?_toArray, List.getElem?_cons_succ, List.getElem?_cons_zero]; try rfl)
                case wR11 => rfl
                case yR11 => (intro w hSw; (try dsimp only at hSw); go_simp; (try with_reducible rfl))
                (try simp only [Act.put, List.setIfInBounds_toArray, List.set_cons_zero, List.set_cons_succ])
                refine wpAnyH_done (by kernel_rfl) ?_ _
                refine NoPanic.normal ?_
                have HL8 := Lib.hid ((HLM.out.keep KAw.out (fun f => f)).keep HK8.out hglm)
                have dl8 := HL8.out.cellD k (by rw [HLL.out]; exact hk4)
                have hfz : w8.frozen? ⟨gl, k, none⟩ = false := free_of_heap HL8.out k
                have KW8 := Lib.hid ((KW.out.trans' KAw.out).trans HK8.out (fun _ _ f => f) (fun j hj f => by omega))
                go_upto_region 21 with fail
                refine wp_phi (φ := StB w p m gl i) (by
                  have hks9 : Keep (fun j => j = gl) w8 (w8.setCell ⟨gl, k, none⟩ (.int .i64 i)) := (Keep.refl (fun j => j = gl) w8).setCell (p := ⟨gl, k, none⟩) (fun _ => rfl) _
                  refine ⟨L.set k i, nm k :: ks, _, by rw [List.length_set]; exact HLL.out, fun j hj => ?_, HL8.out.set k i, HT8.out.keep hks9 (fun e => hglp e.symm) (fun e => hglm e.symm), ks_set HLL.out HKS.out k hk4 i (by omega), fs_set HLL.out HFS.out k hk4, KW8.out.trans hks9 (fun _ _ f => f) (fun j hj f => by omega)⟩
                  by_cases e : k = j
                  · subst e; simp [List.getD_eq_getElem?_getD, HLL.out, hk4]; omega
                  · have := HRG.out j hj; rw [List.getD_eq_getElem?_getD] at this ⊢; rw [List.getElem?_set_ne e]; omega) ?_
                rintro wT ⟨L, ks, f, hL, hrg, hlm, hT, hks, hfs, hkw⟩
                have HM := Lib.hid (late_len hks hfs)
                have hsl := srt_len hks
                have HTK := Lib.hid (tickS_any p m (5 * i + 1) 5 ks f wT hT (by omega))
                have HLM := Lib.hid hlm; have HKS := Lib.hid hks; have HFS := Lib.hid hfs; have KW := Lib.hid hkw; have HRG := Lib.hid hrg; have HLL := Lib.hid hL
                clear hlm hT hks hfs hkw hrg hL
                go_wp2_with fail
                refine HTK.out.mono ?_
                rintro e w5 ⟨v, rfl, hrow, hfr, hT, hk5⟩
                obtain ⟨a5, c5, rfl⟩ := row_slice hrow
                have HT5 := Lib.hid (hT.mono (n' := 5 * (i + 1)) (by omega))
                have HL5 := Lib.hid (HLM.out.keep hk5 hglm)
                have K5 := Lib.hid (KW.out.trans hk5 (fun _ _ f => f) (fun j hj f => by omega))
                clear hrow hfr hT hk5 HTK hsl
                generalize hgM : (lateS 5 ks f).length = M
                have HM2 : Hid (M = ((List.range 4).filter (lateK L i)).length) := Lib.hid (by rw [← hgM]; exact HM.out)
                clear hgM HM
                go_wp2_with fail
                go_loopw [12, 65] (fun nv jv wr => ∃ j : Nat, j ≤ 4 ∧ jv = .int .i64 j ∧ nv = .int .i64 (((List.range j).filter (lateK L i)).length : Nat) ∧ wr = w5) (fun _ jv _ => 4 - (intOf jv).toNat)
                case atStart => exact ⟨0, by omega, rfl, rfl, rfl⟩
                case round =>
                  obtain ⟨j, hj, rfl, rfl, rfl⟩ := hrel
                  by_cases hj4 : j < 4
                  · have hj5 : (j : Int) < 4 := by omega
                    have dl := HL5.out.cellD j (by rw [HLL.out]; exact hj4)
                    have hrj := HRG.out j hj4
                    have hls := lateK_succ L i j
                    have hlk : lateK L i j = (decide (0 ≤ L.getD j (-1)) && decide (5 ≤ (i : Int) + 1 - L.getD j (-1))) := rfl
                    have hcb : (((List.range j).filter (lateK L i)).length : Nat) ≤ 4 := Nat.le_trans (List.length_filter_le _ _) (by simp; omega)
                    generalize ((List.range j).filter (lateK L i)).length = cj at hls hcb ⊢
                    generalize L.getD j (-1) = v at dl hrj hlk
                    by_cases hv : 0 ≤ v
                    · have hvd : decide (0 ≤ v) = true := by simp [hv]
                      by_cases h5 : 5 ≤ (i : Int) + 1 - v
                      · have h5d : decide (5 ≤ (i : Int) + 1 - v) = true := by simp [h5]
                        have HLS : Hid ((((List.range (j + 1)).filter (lateK L i)).length : Nat) = ((cj : Int) + 1)) := Lib.hid (by rw [hls, hlk, hvd, h5d]; rfl)
                        clear hls hlk
                        go_wp2_with fail
                        go_roundw
                        case rel => exact ⟨j + 1, by omega, by go_num, by rw [HLS.out], trivial⟩
                        case measure => simp [intOf]; omega
                      · have h5d : decide (5 ≤ (i : Int) + 1 - v) = false := by simp; omega
                        have HLS : Hid ((((List.range (j + 1)).filter (lateK L i)).length : Nat) = (cj : Int)) := Lib.hid (by rw [hls, hlk, hvd, h5d]; simp)
                        clear hls hlk
                        go_wp2_with fail
                        go_roundw
                        case rel => exact ⟨j + 1, by omega, by go_num, by rw [HLS.out], trivial⟩
                        case measure => simp [intOf]; omega
                    · have hvd : decide (0 ≤ v) = false := by simp; omega
                      have HLS : Hid ((((List.range (j + 1)).filter (lateK L i)).length : Nat) = (cj : Int)) := Lib.hid (by rw [hls, hlk, hvd]; simp)
                      clear hls hlk
                      go_wp2_with fail
                      go_roundw
                      case rel => exact ⟨j + 1, by omega, by go_num, by rw [HLS.out], trivial⟩
                      case measure => simp [intOf]; omega
                  · have hj5 : ¬ (j : Int) < 4 := by omega
                    obtain rfl : j = 4 := by omega
                    rw [← HM2.out]
                    have hne : ((M : Int) != M) = false := by simp
                    go_wp2_with fail
                    go_roundw
                    case rel => exact ⟨i + 1, by omega, by go_num, L, ks, _, HLL.out, HRG.out, HL5.out, HT5.out, HKS.out, fun k hk h => by have := HFS.out k hk h; push_cast; omega, K5.out⟩
                    case measure => simp [intOf]; omega
              · have hsp1 : ¬ (i : Int) < l.length := by omega
                go_upto_region 21 with fail
                refine wp_phi (φ := StB w p m gl i) (⟨L, ks, f, HLL.out, fun j hj => by have := HRG.out j hj; omega, HLM.out, HT.out.mono (by omega), HKS.out, HFS.out, KW.out⟩) ?_
                rintro wT ⟨L, ks, f, hL, hrg, hlm, hT, hks, hfs, hkw⟩
                have HM := Lib.hid (late_len hks hfs)
                have hsl := srt_len hks
                have HTK := Lib.hid (tickS_any p m (5 * i + 1) 5 ks f wT hT (by omega))
                have HLM := Lib.hid hlm; have HKS := Lib.hid hks; have HFS := Lib.hid hfs; have KW := Lib.hid hkw; have HRG := Lib.hid hrg; have HLL := Lib.hid hL
                clear hlm hT hks hfs hkw hrg hL
                go_wp2_with fail
                refine HTK.out.mono ?_
                rintro e w5 ⟨v, rfl, hrow, hfr, hT, hk5⟩
                obtain ⟨a5, c5, rfl⟩ := row_slice hrow
                have HT5 := Lib.hid (hT.mono (n' := 5 * (i + 1)) (by omega))
                have HL5 := Lib.hid (HLM.out.keep hk5 hglm)
                have K5 := Lib.hid (KW.out.trans hk5 (fun _ _ f => f) (fun j hj f => by omega))
                clear hrow hfr hT hk5 HTK hsl
                generalize hgM : (lateS 5 ks f).length = M
                have HM2 : Hid (M = ((List.range 4).filter (lateK L i)).length) := Lib.hid (by rw [← hgM]; exact HM.out)
                clear hgM HM
                go_wp2_with fail
                go_loopw [12, 65] (fun nv jv wr => ∃ j : Nat, j ≤ 4 ∧ jv = .int .i64 j ∧ nv = .int .i64 (((List.range j).filter (lateK L i)).length : Nat) ∧ wr = w5) (fun _ jv _ => 4 - (intOf jv).toNat)
                case atStart => exact ⟨0, by omega, rfl, rfl, rfl⟩
                case round =>
                  obtain ⟨j, hj, rfl, rfl, rfl⟩ := hrel
                  by_cases hj4 : j < 4
                  · have hj5 : (j : Int) < 4 := by omega
                    have dl := HL5.out.cellD j (by rw [HLL.out]; exact hj4)
                    have hrj := HRG.out j hj4
                    have hls := lateK_succ L i j
                    have hlk : lateK L i j = (decide (0 ≤ L.getD j (-1)) && decide (5 ≤ (i : Int) + 1 - L.getD j (-1))) := rfl
                    have hcb : (((List.range j).filter (lateK L i)).length : Nat) ≤ 4 := Nat.le_trans (List.length_filter_le _ _) (by simp; omega)
                    generalize ((List.range j).filter (lateK L i)).length = cj at hls hcb ⊢
                    generalize L.getD j (-1) = v at dl hrj hlk
                    by_cases hv : 0 ≤ v
                    · have hvd : decide (0 ≤ v) = true := by simp [hv]
                      by_cases h5 : 5 ≤ (i : Int) + 1 - v
                      · have h5d : decide (5 ≤ (i : Int) + 1 - v) = true := by simp [h5]
                        have HLS : Hid ((((List.range (j + 1)).filter (lateK L i)).length : Nat) = ((cj : Int) + 1)) := Lib.hid (by rw [hls, hlk, hvd, h5d]; rfl)
                        clear hls hlk
                        go_wp2_with fail
                        go_roundw
                        case rel => exact ⟨j + 1, by omega, by go_num, by rw [HLS.out], trivial⟩
                        case measure => simp [intOf]; omega
                      · have h5d : decide (5 ≤ (i : Int) + 1 - v) = false := by simp; omega
                        have HLS : Hid ((((List.range (j + 1)).filter (lateK L i)).length : Nat) = (cj : Int)) := Lib.hid (by rw [hls, hlk, hvd, h5d]; simp)
                        clear hls hlk
                        go_wp2_with fail
                        go_roundw
                        case rel => exact ⟨j + 1, by omega, by go_num, by rw [HLS.out], trivial⟩
                        case measure => simp [intOf]; omega
                    · have hvd : decide (0 ≤ v) = false := by simp; omega
                      have HLS : Hid ((((List.range (j + 1)).filter (lateK L i)).length : Nat) = (cj : Int)) := Lib.hid (by rw [hls, hlk, hvd]; simp)
                      clear hls hlk
                      go_wp2_with fail
                      go_roundw
                      case rel => exact ⟨j + 1, by omega, by go_num, by rw [HLS.out], trivial⟩
                      case measure => simp [intOf]; omega
                  · have hj5 : ¬ (j : Int) < 4 := by omega
                    obtain rfl : j = 4 := by omega
                    rw [← HM2.out]
                    have hne : ((M : Int) != M) = false := by simp
                    go_wp2_with fail
                    go_roundw
                    case rel => exact ⟨i + 1, by omega, by go_num, L, ks, _, HLL.out, HRG.out, HL5.out, HT5.out, HKS.out, fun k hk h => by have := HFS.out k hk h; push_cast; omega, K5.out⟩
                    case measure => simp [intOf]; omega
            · have hlt2 : ¬ (i : Int) < n := by omega
              obtain rfl : i = n := by omega
              go_wp2_with fail
              obtain ⟨wM, rfl⟩ : ∃ W, W = wr := ⟨_, rfl⟩
              go_loopw [88] (fun kv wq => ∃ k : Nat, k ≤ 4 ∧ kv = .int .i64 k ∧ Keep NoF wM wq) (fun kv _ => 4 - (intOf kv).toNat)
              case atStart => exact ⟨0, by omega, rfl, Keep.refl _ _⟩
              case round =>
                obtain ⟨k, hk, rfl, hkq⟩ := hrel
                obtain ⟨wq, rfl⟩ : ∃ W, W = wr := ⟨_, rfl⟩
                have KQ := Lib.hid hkq
                by_cases hk4 : k < 4
                · have hk5 : (k : Int) < 4 := by omega
                  have dl := (HLM.out.keep hkq (fun f => f)).cellD k (by rw [HLL.out]; exact hk4)
                  obtain ⟨y1, hy1⟩ : ∃ y : Int, 97 + (k : Int) = y := ⟨_, rfl⟩
                  obtain ⟨y, hy⟩ : ∃ y : Int, IntKind.wrap .u8 y1 = y := ⟨_, rfl⟩
                  have hcv := conv1 (P := Try.prog) (src := 49) (dst := 9) (e := 5) (T := 5) Try.underlying49 Try.underlying5 Try.underlying9 wq y k (by
                    have h2 : IntKind.wrap .u8 y1 = y1 % 256 := rfl
                    omega)
                  have hage := ageS_any p m (5 * i) 5 ks f (nm k) (nm_len k) (wq.alloc (.cells #[.int .u8 y] 5 (0, 0))) (HT.out.keep (hkq.alloc _) (fun f => f) (fun f => f))
                  have hkk := HKS.out (nm k)
                  by_cases hv : 0 ≤ L.getD k (-1)
                  · have hin : nm k ∈ ks := hkk.2 ⟨k, hk4, hv, rfl⟩
                    have ea : ageS ks f (nm k) = (i : Int) - L.getD k (-1) := by unfold ageS; rw [if_pos hin]; exact HFS.out k hk4 hv
                    rw [ea] at hage
                    have hrk := HRG.out k hk4
                    generalize L.getD k (-1) = v at dl hage hv hrk
                    obtain ⟨ag, hag⟩ : ∃ ag, (i : Int) - v = ag := ⟨_, rfl⟩
                    rw [hag] at hage
                    have hvd : decide (0 ≤ v) = true := by simp [hv]
                    have hne : (ag != ag) = false := by simp
                    have HAGE := Lib.hid hage
                    clear hkk hkq hage ea hin
                    go_wp2_with fail
                    refine HAGE.out.mono ?_
                    rintro e w5 ⟨rfl, hw5⟩
                    obtain rfl : (wq.alloc (.cells #[.int .u8 y] 5 (0, 0))) = w5 := hw5.symm
                    go_wp2_with fail
                    go_roundw
                    case rel => exact ⟨k + 1, by omega, by go_num, KQ.out.alloc _⟩
                    case measure => simp [intOf]; omega
                  · have hin : nm k ∉ ks := fun e => by
                      obtain ⟨j, h1, h2, e2⟩ := hkk.1 e
                      have := nm_inj hk4 h1 e2
                      subst this; exact hv h2
                    have ea : ageS ks f (nm k) = -1 := by unfold ageS; rw [if_neg hin]
                    rw [ea] at hage
                    generalize L.getD k (-1) = v at dl hv
                    have hvd : decide (0 ≤ v) = false := by simp; omega
                    have HAGE := Lib.hid hage
                    clear hkk hkq hage ea hin
                    go_wp2_with fail
                    refine HAGE.out.mono ?_
                    rintro e w5 ⟨rfl, hw5⟩
                    obtain rfl : (wq.alloc (.cells #[.int .u8 y] 5 (0, 0))) = w5 := hw5.symm
                    go_wp2_with fail
                    go_roundw
                    case rel => exact ⟨k + 1, by omega, by go_num, KQ.out.alloc _⟩
                    case measure => simp [intOf]; omega
                · have hk5 : ¬ (k : Int) < 4 := by omega
                  clear hkq
                  go_wp2_with fail
                  go_ret
                  exact ⟨rfl, KW.out.trans' KQ.out⟩

set_option linter.unusedVariables false
set_option maxRecDepth 100000 in
theorem lifted (os : Os) (started : os.Started) (H : Type) (enc : TypeId × Value → H) :
    ReturnsInHanded {} Try.checked os 6 .any (Rows.timerAgesSpec.pre6 enc Try.prog Try.f6 Rows.timerAgesRow.domain false) (Rows.timerAgesSpec.post enc Try.prog Try.f6 false true false false) := by
  refine returnsInHanded_of_change (C := Try.checked) own started (by kernel_rfl) Try.func6
    (ChangeSpec.witness6 (enc := enc) (C := Try.checked) false ⟨#[], #[.slice none 0 0, .int .i64 0], []⟩ 8 (by kernel_rfl) (by kernel_rfl) (by kernel_rfl) (by kernel_rfl)) ?_
  intro W base args ds gs before hval0 hW hcnd _
  have hval : ∀ (j : Nat) t v, Try.f6.params[j]? = some t → args[j]? = some v → Value.okWide Try.prog W .any base t v := hval0
  have hW' := hW
  obtain ⟨p, q, hA0, hV, rfl, hfz, hnd⟩ := hW
  have hA : DataW.TrodAll enc Try.prog W 0 (fun _ => true) true Try.f6.params.toList args.toList ds p := hA0
  rw [Try.params6] at hA hval
  obtain ⟨v0, vs0, d0, ds0, p0, q0, hargs, rfl, rfl, h0, r0⟩ := trodAll_cons hA
  obtain ⟨v1, vs1, d1, ds1, p1, q1, rfl, rfl, rfl, h1, r1⟩ := trodAll_cons r0
  obtain ⟨rfl, rfl, rfl⟩ := trodAll_nil r1
  obtain rfl : args = #[v0, v1] := by cases args; simp_all
  obtain ⟨rfl, rfl⟩ := trodVars_none hV
  obtain ⟨a0, len0, cap0, rfl⟩ := okWide_slice Try.underlying22 (hval 0 22 v0 rfl rfl)
  have k0 := h0
  have lt0 : ∀ x ∈ p0, x.block < W.heap.size := by obtain ⟨m, hm⟩ := k0; exact DataW.trod_lt m _ _ _ hm
  obtain ⟨z0, w0⟩ : ∃ zs, IsRow .i64 W a0 len0 cap0 zs := by
    obtain ⟨fuel, hf⟩ := h0
    rcases open_ints Try.underlying22 Try.underlying3 (by kernel_rfl) hf with ⟨hcs, _⟩ | ⟨x, l, c, zs, hcs, _, hl, hm, hz, _, hcell, hwz⟩
    · simp [Value.cells] at hcs
      obtain ⟨rfl, rfl, rfl⟩ := hcs
      exact ⟨[], .inl ⟨rfl, rfl, rfl, rfl⟩⟩
    · simp [Value.cells] at hcs
      obtain ⟨rfl, rfl, rfl⟩ := hcs
      exact ⟨zs, .inr ⟨_, rfl, hl, hm, by simpa using hz, hcell, hwz⟩⟩
  obtain ⟨a1, rfl, rfl, rfl, w1⟩ := open_int Try.underlying3 (hval 1 3 v1 rfl rfl) h1
  clear hA0 hval0
  refine (walk W a0 len0 cap0 z0 w0 a1 w1).mono fun e W' ⟨he, hk⟩ => ?_
  subst he
  have bel := Keep.below hk
  exact ⟨_, rfl, _, _, _, [], _, [], hW', trodAll_mk1 (shut_bool Try.underlying4 _), (trodAll_cons_mk (Below.trod laidOut (by kernel_rfl) (of_decide_eq_true (by kernel_rfl)) k0 bel lt0) (trodAll_cons_mk (shut_int Try.underlying3 w1) trodAll_mk0)), rfl, bel.frame _, fun h => by cases h⟩

theorem over : Rows.timerAgesRow.holds Try.pinned (OpenSpec.ofChange Rows.timerAgesSpec) :=
  OpenClaim.holds_of_wide 6 Try.f6 rfl rfl rfl rfl rfl rfl rfl ⟨rfl, rfl, rfl, rfl, rfl⟩ rfl rfl rfl rfl rfl (by kernel_rfl) Try.func6 (by kernel_rfl)
    (of_decide_eq_true (by kernel_rfl)) (by unfold Func.isWrapper; rw [if_neg (of_decide_eq_false (by kernel_rfl))]; exact ⟨rfl, rfl⟩)
    (fun os started H enc _ => lifted os started H enc)

/-- The statement. -/
theorem proved : Rows.TimerAgesSaid := over
#print axioms proved
end Go.Proofs.Ytidpfkehmokdfaa.timerAges
