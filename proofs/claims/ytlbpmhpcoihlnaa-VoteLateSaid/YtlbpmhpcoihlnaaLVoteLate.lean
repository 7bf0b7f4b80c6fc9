/- VoteLate: the law returns true and changes nothing that was there. No conditions. -/
import Derived.Test.YtlbpmhpcoihlnaaArgs18
import Derived.Deep.CutRange
import Derived.Laws.IdiomStrings
import Derived.Test.YtlbpmhpcoihlnaaRows
import Derived.WalkKit
import Derived.ProofKit
import Derived.OpenShut
import Derived.ShutString
import Derived.ChangeOld
import Derived.Below
namespace Go.Proofs.Ytlbpmhpcoihlnaa.voteLate
open Go Go.ChangeShapes Go.WideShapes Go.ChangeAt Go.RowKit
open Go.ChangeMaps (open_string shut_string)

theorem own : ownKnob Try.prog.godebug = none := by kernel_rfl
theorem laidOut : laidOutB Try.prog = true := by kernel_rfl

theorem open_arg2 {H : Type} {enc : TypeId × Value → H} {a : Option Addr} {len cap : Nat} {d : DataW H} {p : List MemPlace} (W : World) (_base : Nat)
    (h : DataW.Trod enc Try.prog W 0 (fun _ => true) true 34 (.slice a len cap) d p) : ∃ l : List Bool, l.length = len ∧ SlBo W a cap l := open_bools h
theorem infoStr : (Try.prog.info? 9).map (fun i => (i.zero, i.size, i.bytes)) = some (some (.string ByteArray.empty), 1, 16) := by kernel_rfl
theorem tmod_bounds (a m : Int) (hm : 0 < m) : -m < a.tmod m ∧ a.tmod m < m := by
  by_cases h : 0 ≤ a
  · rw [Int.tmod_eq_emod_of_nonneg h]
    have := Int.emod_nonneg a (b := m) (by omega)
    have := Int.emod_lt_of_pos a hm
    omega
  · have e : a = -(-a) := by omega
    rw [e, Int.neg_tmod, Int.tmod_eq_emod_of_nonneg (by omega)]
    have := Int.emod_nonneg (-a) (b := m) (by omega)
    have := Int.emod_lt_of_pos (-a) hm
    omega
theorem tmod_pos (a m : Int) (ha : 0 ≤ a) (hm : 0 < m) : 0 ≤ a.tmod m ∧ a.tmod m < m := by
  rw [Int.tmod_eq_emod_of_nonneg ha]
  exact ⟨Int.emod_nonneg a (by omega), Int.emod_lt_of_pos a hm⟩
/-- The name of the i-th voter. -/
def nm (i : Nat) : List UInt8 := [UInt8.ofNat (97 + i)]
theorem nm_len (i : Nat) : (nm i).length ≤ maxLen := by simp [nm]; decide
theorem nm_inj {i j : Nat} (hi : i < 8) (hj : j < 8) (h : nm i = nm j) : i = j := by
  simp only [nm, List.cons.injEq, and_true] at h
  have := congrArg UInt8.toNat h
  simp at this
  omega
def names (n : Nat) : List (List UInt8) := (List.range n).map nm
theorem names_length (n : Nat) : (names n).length = n := by simp [names]
theorem names_succ (n : Nat) : names (n + 1) = names n ++ [nm n] := by simp [names, List.range_succ]
theorem mem_names {n : Nat} {x : List UInt8} : x ∈ names n ↔ ∃ j : Nat, j < n ∧ x = nm j := by
  simp [names, eq_comm]
theorem names_nodup {n : Nat} (h : n ≤ 8) : (names n).Nodup := by
  unfold names
  rw [List.nodup_iff_pairwise_ne, List.pairwise_map]
  refine List.Pairwise.imp_of_mem ?_ List.nodup_range
  intro a b ha hb hab e
  exact hab (nm_inj (by have := List.mem_range.1 ha; omega) (by have := List.mem_range.1 hb; omega) e)
theorem row_slis {w : World} {ao : Option Addr} {cp n : Nat} {l : List (List UInt8)} (hl : l.length = n) (h : w.ownsRow 0 9 1 (.slice ao n cp) n (l.map encStr)) (hw : ∀ x ∈ l, x.length ≤ maxLen) : SlIS w ao cp l := by
  subst hl
  rcases h.2 with ⟨e, he⟩ | ⟨g, cap, cur, e, _, hg, hn, hc, hcs, htk⟩
  · injection e with e1 e2 e3
    have : l = [] := List.eq_nil_of_length_eq_zero (by omega)
    subst this
    exact ⟨by simp, by unfold maxLen; omega, by simp, by simp⟩
  · injection e with e1 e2 e3
    subst e1 e3
    refine ⟨hn, hc, hw, fun i hi => ⟨g, 0, rfl, ?_⟩⟩
    rw [Nat.zero_add, h.cellAt i (by omega), List.getElem?_map, List.getElem?_eq_getElem hi]
    rfl
theorem bal_keepF {F : Nat → Prop} {w w' : World} {p by_ bn n : Nat} {ks : List (List UInt8)} {yes : List UInt8 → Bool} {ns : List (List UInt8)} (h : BalIS w p by_ bn n ks yes ns) (hk : Keep F w w') (h1 : ¬ F p) (h2 : ¬ F by_) (h3 : ¬ F bn) : BalIS w' p by_ bn n ks yes ns :=
  ⟨by rw [hk.block p (lt_of_heap h.row) h1]; exact h.row, h.ym.keep hk h2, h.nm.keep hk h3, h.ne⟩
/-- One byte as a text. -/
theorem conv1 {P : Program} {src dst e T : TypeId} (hs : P.underlying src = some (.slice e)) (he : P.underlying e = some (.int .u8)) (hd : P.underlying dst = some .string) (W : World) (y : Int) (n : Nat) (hy : y = ((97 + n : Nat) : Int)) :
    (convert src dst (.slice (some ⟨W.heap.size, 0, none⟩) 1 1)).run P (W.alloc (.cells #[.int .u8 y] T (0, 0))) = .ok (encStr (nm n)) (W.alloc (.cells #[.int .u8 y] T (0, 0))) := by
  subst hy
  rw [run_convert_bytes_string _ src dst e _ _ _ hs he hd, run_bytesToString _ _ _ _ [((97 + n : Nat) : Int)]]
  · rfl
  · have := run_loadCells_list (P := P) (w := W.alloc (.cells #[.int .u8 ((97 + n : Nat) : Int)] T (0, 0))) ⟨W.heap.size, 0, none⟩ [.int .u8 ((97 + n : Nat) : Int)] (by
      intro j v hv
      have hj : j = 0 := by
        rcases j with _ | j
        · rfl
        · simp at hv
      subst hj
      simp at hv
      subst hv
      have hb := heap_new W (.cells #[.int .u8 ((97 + n : Nat) : Int)] T (0, 0))
      rw [show (Addr.mk W.heap.size 0 none).add 0 = ⟨W.heap.size, 0, none⟩ by simp [Addr.add], cell_of_heap hb 0]
      rfl)
    exact this
theorem sort_len {ks : List (List UInt8)} {m : Nat} (hks : ∀ x, x ∈ ks ↔ x ∈ names m) (h : m ≤ 8) : (sortDS ks).length = m := by
  have h1 : (ddupS ks).Perm (names m) := (List.perm_ext_iff_of_nodup (nodup_ddupS ks) (names_nodup h)).2 (fun x => by rw [mem_ddupS]; exact hks x)
  rw [sortDS, List.length_mergeSort, h1.length_eq, names_length]
theorem miss_nil {ks : List (List UInt8)} {yes : List UInt8 → Bool} {ns : List (List UInt8)} : missDS ks yes ns = [] ↔ ∀ x ∈ ks, votedBS ks yes ns x = true := by
  unfold missDS
  rw [List.filter_eq_nil_iff]
  constructor
  · intro h x hx
    have := h x (mem_sortDS.2 hx)
    simpa using this
  · intro h x hx
    simp [h x (mem_sortDS.1 hx)]
def saidY (i : Nat) : List UInt8 → Bool := fun x => memB x (names i)
theorem saidY_succ {ks : List (List UInt8)} {i : Nat} (h : nm i ∈ ks) : yesVS ks (saidY i) [] (nm i) true = saidY (i + 1) := by
  have e1 : yesVS ks (saidY i) [] (nm i) true = fun z => if z = nm i then true else saidY i z := if_pos ⟨h, rfl, by simp⟩
  rw [e1]
  funext z
  unfold saidY
  rw [names_succ, Bool.eq_iff_iff]
  by_cases hz : z = nm i
  · simp [hz, memB_iff]
  · simp [hz, memB_iff]
theorem late_how {ks : List (List UInt8)} {m i : Nat} (hks : ∀ x, x ∈ ks ↔ x ∈ names m) (hm : m ≤ 8) (hi : i < m) : howDS ks (saidY (i + 1)) [] = if i + 1 = m then 1 else 0 := by
  have hiff : missDS ks (saidY (i + 1)) [] = [] ↔ i + 1 = m := by
    rw [miss_nil]
    constructor
    · intro h
      by_cases hlt : i + 1 = m
      · exact hlt
      · exfalso
        have hx := (hks (nm (i + 1))).2 (mem_names.2 ⟨i + 1, by omega, rfl⟩)
        have := h _ hx
        simp only [votedBS, memB_yes hx, Bool.true_and, saidY, Bool.or_eq_true, memB_iff, List.not_mem_nil, or_false] at this
        obtain ⟨j, hj, e⟩ := mem_names.1 this
        have := nm_inj (by omega) (by omega) e
        omega
    · intro h x hx
      obtain ⟨j, hj, rfl⟩ := mem_names.1 ((hks x).1 hx)
      simp only [votedBS, memB_yes hx, Bool.true_and, saidY, Bool.or_eq_true, memB_iff]
      exact .inl (mem_names.2 ⟨j, by omega, rfl⟩)
  unfold howDS
  rw [if_pos rfl]
  by_cases h : i + 1 = m
  · rw [if_pos (hiff.2 h), if_pos h]
  · rw [if_neg (fun e => h (hiff.1 e)), if_neg h]
/-- Who has voted has voted, whatever comes behind it. -/
theorem voted_on {ks : List (List UInt8)} {yes : List UInt8 → Bool} {ns : List (List UInt8)} (h : ∀ x ∈ ks, votedBS ks yes ns x = true) (who : List UInt8) (y : Bool) :
    ∀ x ∈ ks, votedBS ks (yesVS ks yes ns who y) (noVS ks ns who y) x = true := by
  intro x hx
  have h1 := h x hx
  simp only [votedBS, Bool.or_eq_true, Bool.and_eq_true, memB_iff] at h1 ⊢
  rcases h1 with ⟨_, h2⟩ | h2
  · refine .inl ⟨hx, ?_⟩
    unfold yesVS
    split
    · simp only []
      split
      · rfl
      · exact h2
    · exact h2
  · refine .inr ?_
    unfold noVS
    split
    · exact List.mem_cons_of_mem _ h2
    · exact h2
theorem no_on {ks : List (List UInt8)} {ns : List (List UInt8)} (h : ns ≠ []) (who : List UInt8) (y : Bool) : noVS ks ns who y ≠ [] := by
  unfold noVS
  split
  · simp
  · exact h
theorem how_no {ks : List (List UInt8)} {yes : List UInt8 → Bool} {ns : List (List UInt8)} (h : ns ≠ []) : howDS ks yes ns = 2 := if_neg h
theorem row_slice {w : World} {b s n : Nat} {e : TypeId} {v : Value} {xs : List Value} (h : w.ownsRow b e s v n xs) : ∃ ao cp, v = .slice ao n cp := by
  rcases h.2 with ⟨rfl, he⟩ | ⟨g, cap, cur, rfl, _⟩
  · exact ⟨none, 0, by rw [he]⟩
  · exact ⟨_, _, rfl⟩
def LateR (p by_ bn : Nat) (ks : List (List UInt8)) (w2 : World) (i : Nat) (wr : World) : Prop :=
  ∃ yes ns, BalIS wr p by_ bn (2000 + i) ks yes ns ∧ ns ≠ [] ∧ (∀ x ∈ ks, votedBS ks yes ns x = true) ∧ Keep (VFS by_ bn) w2 wr
theorem wf_small {x : Int} (h : 0 ≤ x ∧ x ≤ 100) : (Lit.int .i64 x).wf = true := WalkArith.wf_i64 (by omega)
set_option maxHeartbeats 8000000 in
set_option maxRecDepth 20000 in
theorem walk (w : World) (n0 : Int) (hn0 : (Lit.int .i64 n0).wf = true) (at0 : Int) (ht : (Lit.int .i64 at0).wf = true) (a2 : Option Addr) (len2 cap2 : Nat) (z : List Bool) (hz : z.length = len2 ∧ SlBo w a2 cap2 z) :
    Calls Try.prog 6 #[.int .i64 n0, .int .i64 at0, .slice a2 len2 cap2] w fun e w' => e = .returned (.bool true) ∧ Keep NoF w w' := by
  obtain ⟨hzl, sz⟩ := hz
  subst hzl
  have hn := bounds_i64 hn0
  have htb := bounds_i64 ht
  have c1 := sz.1; have c1m := sz.2.1
  unfold maxLen at c1m
  obtain ⟨r, hr⟩ : ∃ r, n0.tmod 8 = r := ⟨_, rfl⟩
  have hrb := tmod_bounds n0 8 (by omega)
  rw [hr] at hrb
  obtain ⟨q, hq⟩ : ∃ q, (r + 8).tmod 8 = q := ⟨_, rfl⟩
  have hqb := tmod_pos (r + 8) 8 (by omega) (by omega)
  rw [hq] at hqb
  obtain ⟨m, hm⟩ : ∃ m : Nat, 1 + q = m := ⟨(1 + q).toNat, by omega⟩
  have hm1 : 1 ≤ m ∧ m ≤ 8 := by omega
  obtain ⟨t1, ht1⟩ : ∃ t1, at0.tmod (m : Int) = t1 := ⟨_, rfl⟩
  have htb1 := tmod_bounds at0 m (by omega)
  rw [ht1] at htb1
  obtain ⟨s, hs⟩ : ∃ s : Nat, (t1 + m).tmod (m : Int) = s := ⟨((t1 + m).tmod (m : Int)).toNat, by have := tmod_pos (t1 + m) m (by omega) (by omega); omega⟩
  have hsm : s < m := by have := tmod_pos (t1 + m) m (by omega) (by omega); omega
  have S1 := Lib.hid sz
  have HM7 := Lib.hid hm1
  clear sz hn0 ht
  go_enter Try.func6, Try.ntmps6
  go_wp2_with fail
  refine (begun18_any w).mono ?_
  rintro e w1 ⟨rfl, hk⟩
  have K1 := Lib.hid hk
  clear hk
  go_wp2_with fail
  go_loopw [8, 9] (fun lv iv wr => ∃ (j : Nat) (ao : Option Addr) (cp : Nat), j ≤ m ∧ iv = .int .i64 j ∧ lv = .slice ao j cp ∧ wr.ownsRow 0 9 1 (.slice ao j cp) j ((names j).map encStr) ∧ Keep NoF w1 wr ∧ (∀ g, (Value.slice ao j cp).ownBlock = some g → w1.heap.size ≤ g)) (fun _ iv _ => m - (intOf iv).toNat)
  case atStart => exact ⟨0, none, 0, Nat.zero_le _, rfl, rfl, World.ownsRow_nil _ _ _ _, Keep.refl _ _, nofun⟩
  case round =>
    obtain ⟨j, ao, cp, hj, rfl, rfl, hO, hk, hnew⟩ := hrel
    have HO := Lib.hid hO; have HK := Lib.hid hk; have HN := Lib.hid hnew
    clear hO hk hnew
    by_cases hlt : j < m
    · have hlt2 : (j : Int) < m := by omega
      obtain ⟨y1, hy1⟩ : ∃ y : Int, 97 + (j : Int) = y := ⟨_, rfl⟩
      obtain ⟨y, hy⟩ : ∃ y : Int, IntKind.wrap .u8 y1 = y := ⟨_, rfl⟩
      have hcv := conv1 (P := Try.prog) (src := 37) (dst := 9) (e := 5) (T := 5) Try.underlying37 Try.underlying5 Try.underlying9 wr y j (by
        have h2 : IntKind.wrap .u8 y1 = y1 % 256 := rfl
        omega)
      have hyb : 97 ≤ y1 ∧ y1 ≤ 110 := by omega
      have hbn : ((wr.alloc (.cells #[.int .u8 y] 5 (0, 0))).alloc (.cells #[encStr (nm j)] 9 (0, 0))).heap[wr.heap.size + 1]? = some (.cells #[encStr (nm j)] 9 (0, 0)) := by
        have := heap_new (wr.alloc (.cells #[.int .u8 y] 5 (0, 0))) (.cells #[encStr (nm j)] 9 (0, 0))
        rwa [show (wr.alloc (.cells #[.int .u8 y] 5 (0, 0))).heap.size = wr.heap.size + 1 by simp] at this
      have HBN := Lib.hid hbn
      clear hbn
      go_wp2_with (at_builtin; refine wpList_app 36 36 9 (.string ByteArray.empty) 1 16 Try.underlying36 infoStr rfl (by decide) (by decide) rfl rfl rfl rfl ((HO.out.alloc _).alloc _) (Src.one Try.underlying36 HBN.out rfl 1) (by omega) ?_)
      intro a9 c9 w9 hown hgr hfr
      have hO9 : w9.ownsRow 0 9 1 (.slice a9 (j + 1) c9) (j + 1) ((names (j + 1)).map encStr) := by rw [names_succ, List.map_append]; exact hown
      have hk9 : Keep NoF w1 w9 := ((HK.out.alloc _).alloc _).grown hgr (fun k hk e => by have := HN.out k e; omega)
      have hn9 : ∀ g, (Value.slice a9 (j + 1) c9).ownBlock = some g → w1.heap.size ≤ g := fun g hg => by
        rcases hfr with f | f
        · exact HN.out g (by rw [← f]; exact hg)
        · rw [f] at hg; injection hg with hg; have := HK.out.size; omega
      have HO9 := Lib.hid hO9; have HK9 := Lib.hid hk9; have HN9 := Lib.hid hn9
      clear hown hgr hfr hO9 hk9 hn9 hcv
      go_wp2_with fail
      go_roundw
      case rel => exact ⟨j + 1, a9, c9, by omega, by go_num, rfl, HO9.out, HK9.out, HN9.out⟩
      case measure => simp [intOf]; omega
    · have hlt2 : ¬ (j : Int) < m := by omega
      obtain rfl : j = m := by omega
      have hsl := row_slis (names_length j) HO.out (fun x hx => by obtain ⟨k, hk, rfl⟩ := mem_names.1 hx; exact nm_len k)
      have HSL := Lib.hid hsl
      obtain ⟨g, o, hg, _⟩ := hsl.2.2.2 0 (by rw [names_length]; have := HM7.out; omega)
      subst hg
      have hgl : g < wr.heap.size := by
        obtain ⟨_, _, e, hc⟩ := hsl.2.2.2 0 (by rw [names_length]; have := HM7.out; omega)
        injection e with e
        injection e with e1 e2 e3
        subst e1
        exact World.block_lt_of_cell? wr _ hc
      have HC : Hid (∀ i, i < j → wr.cell? ⟨g, o + i, none⟩ = some (encStr (nm i))) := Lib.hid fun i hi => by
        obtain ⟨_, _, e, hc⟩ := hsl.2.2.2 i (by rw [names_length]; exact hi)
        injection e with e
        injection e with e1 e2 e3
        subst e1 e2
        rw [hc]
        simp [names]
      clear hsl hlt
      go_wp2_with fail
      refine (new_anyS (some ⟨g, o, none⟩) cp (names j) j (names_length j) wr HSL.out (by have := HM7.out; omega)).mono ?_
      rintro e w2 ⟨p, by_, bn, ks, rfl, hA, hma, hka, hpa, hba, hna⟩
      have HA2 := Lib.hid hA; have HMA := Lib.hid hma; have K2 := Lib.hid ((K1.out.trans' HK.out).trans' hka)
      have HC2 : Hid (∀ i, i < j → w2.cell? ⟨g, o + i, none⟩ = some (encStr (nm i))) := Lib.hid fun i hi => hka.cell' (HC.out i hi) (fun f => f)
      have hs1 := (K1.out.trans' HK.out).size
      have hcpl : j ≤ cp := by have := HSL.out.1; rw [names_length] at this; exact this
      have FA : Hid (w.heap.size ≤ by_ ∧ w.heap.size ≤ bn ∧ ¬ VFS by_ bn g) := Lib.hid ⟨by omega, by omega, fun f => by rcases f with f | f <;> omega⟩
      clear hA hma hka hpa hba hna HC hgl HO HK HN HSL hlt2 hs1
      obtain ⟨m, rfl⟩ : ∃ m, m = j := ⟨_, rfl⟩
      go_wp2_with fail
      go_loopw [11] (fun iv wr => ∃ i : Nat, i ≤ m ∧ iv = .int .i64 i ∧ BalIS wr p by_ bn (1000 + i) ks (saidY i) [] ∧ Keep (VFS by_ bn) w2 wr) (fun iv _ => m - (intOf iv).toNat)
      case atStart => exact ⟨0, Nat.zero_le _, rfl, HA2.out, Keep.refl _ _⟩
      case round =>
        obtain ⟨i, hi, rfl, hA, hk⟩ := hrel
        have HA := Lib.hid hA; have KW := Lib.hid hk
        clear hA hk HA2
        by_cases hlt : i < m
        · have hlt2 : (i : Int) < m := by omega
          have hlt3 : decide (m ≤ i) = false := by simp; omega
          have d1 := KW.out.cell' (HC2.out i hlt) FA.out.2.2
          have hin : nm i ∈ ks := (HMA.out _).2 (mem_names.2 ⟨i, hlt, rfl⟩)
          have hv := vote_anyS p by_ bn (1000 + i) ks (saidY i) [] (nm i) (nm_len i) true wr HA.out (by omega)
          rw [saidY_succ hin, noV_noS (by simp), late_how HMA.out (by have := HM7.out; omega) hlt] at hv
          clear hin
          by_cases hl : i + 1 = m
          · rw [if_pos hl] at hv
            have HV := Lib.hid hv
            have hl2 : (m : Int) - 1 = i := by omega
            clear hv
            go_wp2_with fail
            refine HV.out.mono ?_
            rintro e w5 ⟨rfl, hA5, hk5⟩
            have HA5 := Lib.hid hA5; have K5 := Lib.hid (KW.out.trans' hk5)
            clear hA5 hk5 HV
            go_wp2_with fail
            go_roundw
            case rel => exact ⟨i + 1, by omega, by go_num, HA5.out, K5.out⟩
            case measure => simp [intOf]; omega
          · rw [if_neg hl] at hv
            have HV := Lib.hid hv
            have hl2 : ¬ (i : Int) = m - 1 := by omega
            clear hv
            go_wp2_with fail
            refine HV.out.mono ?_
            rintro e w5 ⟨rfl, hA5, hk5⟩
            have HA5 := Lib.hid hA5; have K5 := Lib.hid (KW.out.trans' hk5)
            clear hA5 hk5 HV
            go_wp2_with fail
            go_roundw
            case rel => exact ⟨i + 1, by omega, by go_num, HA5.out, K5.out⟩
            case measure => simp [intOf]; omega
        · have hlt2 : ¬ (i : Int) < m := by omega
          obtain rfl : i = m := by omega
          have hsi : (s : Int) < i := by omega
          have hsi3 : decide (i ≤ s) = false := by simp; omega
          have d1 := KW.out.cell' (HC2.out s hsm) FA.out.2.2
          have hin : nm s ∈ ks := (HMA.out _).2 (mem_names.2 ⟨s, hsm, rfl⟩)
          have hv := vote_anyS p by_ bn (1000 + i) ks (saidY i) [] (nm s) (nm_len s) false wr HA.out (by omega)
          have e2 : noVS ks [] (nm s) false = [nm s] := if_pos ⟨hin, rfl⟩
          rw [yesV_noS (by simp), e2, how_no (by simp)] at hv
          have HV := Lib.hid hv
          have HALL : Hid (∀ x ∈ ks, votedBS ks (saidY i) [nm s] x = true) := Lib.hid fun x hx => by
            simp only [votedBS, memB_yes hx, Bool.true_and, saidY, Bool.or_eq_true, memB_iff]
            exact .inl ((HMA.out _).1 hx)
          clear hv e2 hin
          go_wp2_with fail
          refine HV.out.mono ?_
          rintro e w5 ⟨rfl, hA5, hk5⟩
          have HA5 := Lib.hid hA5; have K5 := Lib.hid (KW.out.trans' hk5)
          clear hA5 hk5 HV d1 hlt2
          obtain ⟨m, rfl⟩ : ∃ m, m = i := ⟨_, rfl⟩
          go_wp2_with fail
          go_loopw [13] (fun iv wr => ∃ i : Nat, i ≤ 10 ∧ i ≤ z.length ∧ iv = .int .i64 i ∧ LateR p by_ bn ks w2 i wr) (fun iv _ => z.length - (intOf iv).toNat)
          case atStart => exact ⟨0, by omega, Nat.zero_le _, rfl, ⟨_, _, HA5.out.mono (by omega), by simp, HALL.out, K5.out⟩⟩
          case round =>
            obtain ⟨i, hi10, hi, rfl, yes, ns, hB, hns, hall, hk⟩ := hrel
            have HB := Lib.hid hB; have HNS := Lib.hid hns; have HALL2 := Lib.hid hall; have K6 := Lib.hid hk
            clear hB hns hall hk HALL
            by_cases hgo : i < z.length ∧ i < 10
            · obtain ⟨hlt, hl10⟩ := hgo
              have hi1 : (i : Int) < z.length := by omega
              have hi2 : (i : Int) < 10 := by omega
              have hi3 : decide (z.length ≤ i) = false := by simp; omega
              obtain ⟨kk, hkk⟩ : ∃ kk, i % m = kk := ⟨_, rfl⟩
              have hkm : kk < m := by rw [← hkk]; exact Nat.mod_lt _ (by omega)
              have hk3 : ((i : Int)).tmod (m : Int) = kk := by
                rw [Int.tmod_eq_emod_of_nonneg (by omega), ← hkk]; norm_cast
              have hkm2 : (kk : Int) < m := by omega
              have hkm3 : decide (m ≤ kk) = false := by simp; omega
              have hm0 : ¬ m = 0 := by omega
              clear hkk
              obtain ⟨g2, o2, rfl, D2⟩ := S1.out.2.2 i hlt
              obtain ⟨y, hy⟩ : ∃ y, z[i] = y := ⟨_, rfl⟩
              rw [hy] at D2
              clear hy
              have hg2 := World.block_lt_of_cell? w _ D2
              have HG2 : Hid (¬ VFS by_ bn g2) := Lib.hid fun f => by have := FA.out; dsimp only at hg2; rcases f with f | f <;> omega
              have HD1 : Hid (wr.cell? ⟨g, o + kk, none⟩ = some (encStr (nm kk))) := Lib.hid (K6.out.cell' (HC2.out kk hkm) FA.out.2.2)
              have HD2 : Hid (wr.cell? ⟨g2, o2 + i, none⟩ = some (.bool y)) := Lib.hid (K6.out.cell' (K2.out.cell' D2 (fun f => f)) HG2.out)
              have hv := fun W hW => vote_anyS p by_ bn (2000 + i) ks yes ns (nm kk) (nm_len kk) y W hW (by omega)
              rw [how_no (no_on HNS.out (nm kk) y)] at hv
              have HV := Lib.hid hv
              clear hv D2 hg2
              go_wp2_with fail
              refine wp_region_noPanic ?_
              refine wp_region_held_drew (S := fun W' : World => W'.cell? ⟨g, o + kk, none⟩ = some (encStr (nm kk)) ∧ W'.cell? ⟨g2, o2 + i, none⟩ = some (.bool y)) (by kernel_rfl) (⟨HD1.out, HD2.out⟩) (fun hHeld => ?_)
              refine wpAnyH_take (i := 0) (oi := ?o0) (v := ?v0) ?hi0 (by kernel_rfl) (by kernel_rfl) (by kernel_rfl) (fun _ _ _ h => h) (Or.inl ⟨?w0, ?y0⟩) (by assumption) ?r0
              case hi0 => (simp only [List.getElem?_toArray, List.getElem?_cons_zero]; try rfl)
              case w0 => rfl
              case y0 => (intro w hSw; obtain ⟨hSa, hSb⟩ := hSw; go_simp; (try with_reducible rfl))
              (try simp only [Act.put, List.setIfInBounds_toArray, List.set_cons_zero, List.set_cons_succ])
              refine wpAnyH_take (i := 1) (oi := ?o1) (v := ?v1) ?hi1 (by kernel_rfl) (by kernel_rfl) (by kernel_rfl) (fun _ _ _ h => h) (Or.inl ⟨?w1, ?y1⟩) (by assumption) ?r1
              case hi1 => (simp only [List.getElem?_toArray, List.getElem?_cons_succ, List.getElem?_cons_zero]; try rfl)
              case w1 => rfl
              case y1 => (intro w hSw; obtain ⟨hSa, hSb⟩ := hSw; go_simp; (try with_reducible rfl))
              (try simp only [Act.put, List.setIfInBounds_toArray, List.set_cons_zero, List.set_cons_succ])
              refine wpAnyH_take (i := 2) (oi := ?o2) (v := ?v2) ?hi2 (by kernel_rfl) (by kernel_rfl) (by kernel_rfl) (fun _ _ _ h => h) (Or.inl ⟨?w2, ?y2⟩) (by assumption) ?r2
              case hi2 => (simp only [List.getElem?_toArray, List.getElem?_cons_succ, List.getElem?_cons_zero]; try rfl)
              case w2 => rfl
              case y2 => (intro w hSw; obtain ⟨hSa, hSb⟩ := hSw; go_simp; (try with_reducible rfl))
              (try simp only [Act.put, List.setIfInBounds_toArray, List.set_cons_zero, List.set_cons_succ])
              refine wpAnyH_take (i := 3) (oi := ?o3) (v := ?v3) ?hi3 (by kernel_rfl) (by kernel_rfl) (by kernel_rfl) (fun _ _ _ h => h) (Or.inl ⟨?w3, ?y3⟩) (by assumption) ?r3
              case hi3 => (simp only [List.getElem?_toArray, List.getElem?_cons_succ, List.getElem?_cons_zero]; try rfl)
              case w3 => rfl
              case y3 => (intro w hSw; obtain ⟨hSa, hSb⟩ := hSw; go_simp; (try with_reducible rfl))
              (try simp only [Act.put, List.setIfInBounds_toArray, List.set_cons_zero, List.set_cons_succ])
              refine wpAnyH_take (i := 4) (oi := ?o4) (v := ?v4) ?hi4 (by kernel_rfl) (by kernel_rfl) (by kernel_rfl) (fun _ _ _ h => h) (Or.inl ⟨?w4, ?y4⟩) (by assumption) ?r4
              case hi4 => (simp only [List.getElem?_toArray, List.getElem?_cons_succ, List.getElem?_cons_zero]; try rfl)
              case w4 => rfl
              case y4 => (intro w hSw; obtain ⟨hSa, hSb⟩ := hSw; go_simp; (try with_reducible rfl))
              (try simp only [Act.put, List.setIfInBounds_toArray, List.set_cons_zero, List.set_cons_succ])
              refine wpAnyH_take (i := 5) (oi := ?o5) (v := ?v5) ?hi5 (by kernel_rfl) (by kernel_rfl) (by kernel_rfl) (fun _ _ _ h => h) (Or.inl ⟨?w5, ?y5⟩) (by assumption) ?r5
              case hi5 => (simp only [List.getElem?_toArray, List.getElem?_cons_succ, List.getElem?_cons_zero]; try rfl)
              case w5 => rfl
              case y5 => (intro w hSw; obtain ⟨hSa, hSb⟩ := hSw; go_simp; (try with_reducible rfl))
              (try simp only [Act.put, List.setIfInBounds_toArray, List.set_cons_zero, List.set_cons_succ])
              refine wpAnyH_take (i := 6) (oi := ?o6) (v := ?v6) ?hi6 (by kernel_rfl) (by kernel_rfl) (by kernel_rfl) (fun _ _ _ h => h) (Or.inl ⟨?w6, ?y6⟩) (by assumption) ?r6
              case hi6 => (simp only [List.getElem?_toArray, List.getElem?_cons_succ, List.getElem?_cons_zero]; try rfl)
              case w6 => rfl
              case y6 => (intro w hSw; obtain ⟨hSa, hSb⟩ := hSw; go_simp; (try with_reducible rfl))
              (try simp only [Act.put, List.setIfInBounds_toArray, List.set_cons_zero, List.set_cons_succ])
              refine wpAnyH_take (i := 7) (oi := ?o7) (v := ?v7) ?hi7 (by kernel_rfl) (by kernel_rfl) (by kernel_rfl) (fun _ _ _ h => h) (Or.inl ⟨?w7, ?y7⟩) (by assumption) ?r7
              case hi7 => (simp only [List.getElem?_toArray, List.getElem?_cons_succ, List.getElem?_cons_zero]; try rfl)
              case w7 => rfl
              case y7 => (intro w hSw; obtain ⟨hSa, hSb⟩ := hSw; go_simp; (try with_reducible rfl))
              (try simp only [Act.put, List.setIfInBounds_toArray, List.set_cons_zero, List.set_cons_succ])
              refine wpAnyH_take (i := 8) (oi := ?o8) (v := ?v8) ?hi8 (by kernel_rfl) (by kernel_rfl) (by kernel_rfl) (fun _ _ _ h => h) (Or.inl ⟨?w8, ?y8⟩) (by assumption) ?r8
              case hi8 => (simp only [List.getElem?_toArray, List.getElem?_cons_succ, List.getElem?_cons_zero]; try rfl)
              case w8 => rfl
              case y8 => (intro w hSw; obtain ⟨hSa, hSb⟩ := hSw; go_simp; (try with_reducible rfl))
              (try simp only [Act.put, List.setIfInBounds_toArray, List.set_cons_zero, List.set_cons_succ])
              refine wpAnyH_take (i := 9) (oi := ?o9) (v := ?v9) ?hi9 (by kernel_rfl) (by kernel_rfl) (by kernel_rfl) (fun _ _ _ h => h) (Or.inl ⟨?w9, ?y9⟩) (by assumption) ?r9
              case hi9 => (simp only [List.getElem?_toArray, List.getElem?_cons_succ, List.getElem?_cons_zero]; try rfl)
              case w9 => rfl
              case y9 => (intro w hSw; obtain ⟨hSa, hSb⟩ := hSw; go_simp; (try with_reducible rfl))
              (try simp only [Act.put, List.setIfInBounds_toArray, List.set_cons_zero, List.set_cons_succ])
              refine wpAnyH_take (i := 10) (oi := ?o10) (v := ?v10) ?hi10 (by kernel_rfl) (by kernel_rfl) (by kernel_rfl) (fun _ _ _ h => h) (Or.inl ⟨?w10, ?y10⟩) (by assumption) ?r10
              case hi10 => (simp only [List.getElem?_toArray, List.getElem?_cons_succ, List.getElem?_cons_zero]; try rfl)
              case w10 => rfl
              case y10 => (intro w hSw; obtain ⟨hSa, hSb⟩ := hSw; go_simp; (try with_reducible rfl))
              (try simp only [Act.put, List.setIfInBounds_toArray, List.set_cons_zero, List.set_cons_succ])
              refine wpAnyH_ready (rs := [11]) (by kernel_rfl) (by simp) ?_
              refine AllReadyH.cons (o := ?o11) ?hi11 (fun K hK => ?_) AllReadyH.nil
              case hi11 => (simp only [List.getElem?_toArray, List.getElem?_cons_succ, List.getElem?_cons_zero]; try rfl)
              go_simp
              (go_at_call 16; refine (HV.out _ (HB.out.keep (Keep.refl NoF wr).drew)).mono ?_; rintro e w8 ⟨rfl, hB8, hk8⟩; have HB8 := Lib.hid hB8; have K8 := Lib.hid (hk8.of_drew : Keep (VFS by_ bn) wr w8); clear hB8 hk8)
              go_wp2_with fail
              refine hK.out _ _ (⟨K8.out.cell' HD1.out FA.out.2.2, K8.out.cell' HD2.out HG2.out⟩) (fun hHeld => ?_)
              clear hK K
              (try simp only [Act.put, List.setIfInBounds_toArray, List.set_cons_zero, List.set_cons_succ])
              refine wpAnyH_take (i := 12) (oi := ?o12) (v := ?v12) ?hi12 (by kernel_rfl) (by kernel_rfl) (by kernel_rfl) (fun _ _ _ h => h) (Or.inl ⟨?w12, ?y12⟩) (by assumption) ?r12
              case hi12 => (simp only [List.getElem?_toArray, List.getElem?_cons_succ, List.getElem?_cons_zero]; try rfl)
              case w12 => rfl
              case y12 => (intro w hSw; obtain ⟨hSa, hSb⟩ := hSw; go_simp; (try with_reducible rfl))
              (try simp only [Act.put, List.setIfInBounds_toArray, List.set_cons_zero, List.set_cons_succ])
              refine wpAnyH_done (by kernel_rfl) ?_ _
              refine NoPanic.normal ?_
              go_wp2_with fail
              go_roundw
              case rel => exact ⟨i + 1, by omega, by omega, by go_num, ⟨_, _, HB8.out, no_on HNS.out _ _, voted_on HALL2.out _ _, K6.out.trans' K8.out⟩⟩
              case measure => simp [intOf]; omega
            · have hgo1 : ¬ ((i : Int) < z.length ∧ (i : Int) < 10) := by omega
              have hh := how_anyS p by_ bn (2000 + i) ks yes ns wr HB.out (by omega)
              rw [how_no HNS.out] at hh
              have hm := fun W hW => missing_anyS p by_ bn (2000 + i) ks yes ns W hW (by omega)
              rw [miss_nil.2 HALL2.out] at hm
              have hvo := fun W hW => voters_anyS p by_ bn (2000 + i) ks yes ns W hW (by omega)
              rw [sort_len HMA.out HM7.out.2] at hvo
              have HH := Lib.hid hh; have HMI := Lib.hid hm; have HVO := Lib.hid hvo
              have K7 : Hid (Keep NoF w wr) := Lib.hid (K2.out.trans K6.out (fun _ _ f => f) (fun j hj f => by have := FA.out; rcases f with f | f <;> omega))
              clear hh hm hvo HALL2 HNS K6 HMA
              go_wp2_with fail
              all_goals
                refine HH.out.mono ?_
                rintro e w5 ⟨rfl, hk5⟩
                have K8 := Lib.hid (K7.out.trans' hk5); have HB5 := Lib.hid (HB.out.keep hk5)
                clear hk5 HH
                go_wp2_with fail
                refine (HMI.out w5 HB5.out).mono ?_
                rintro e w6 ⟨v, rfl, hrow, hk6, _⟩
                have K9 := Lib.hid (K8.out.trans' hk6); have HB6 := Lib.hid (HB5.out.keep hk6)
                obtain ⟨a5, c5, hv5⟩ := row_slice hrow
                simp only [List.length_nil] at hv5
                subst hv5
                clear hrow hk6 HMI
                go_wp2_with fail
                refine (HVO.out w6 HB6.out).mono ?_
                rintro e w7 ⟨v, rfl, hrow, _, hk7⟩
                have K10 := Lib.hid (K9.out.trans' hk7)
                obtain ⟨a6, c6, rfl⟩ := row_slice hrow
                clear hrow hk7 HVO
                go_wp2_with fail
                go_ret
                exact ⟨rfl, K10.out⟩

set_option linter.unusedVariables false
set_option maxRecDepth 100000 in
theorem lifted (os : Os) (started : os.Started) (H : Type) (enc : TypeId × Value → H) :
    ReturnsInHanded {} Try.checked os 6 .any (Rows.voteLateSpec.pre6 enc Try.prog Try.f6 Rows.voteLateRow.domain false) (Rows.voteLateSpec.post enc Try.prog Try.f6 false true false false) := by
  refine returnsInHanded_of_change (C := Try.checked) own started (by kernel_rfl) Try.func6
    (ChangeSpec.witness6 (enc := enc) (C := Try.checked) false ⟨#[], #[.int .i64 0, .int .i64 0, .slice none 0 0], []⟩ 8 (by kernel_rfl) (by kernel_rfl) (by kernel_rfl) (by kernel_rfl)) ?_
  intro W base args ds gs before hval0 hW hcnd _
  have hval : ∀ (j : Nat) t v, Try.f6.params[j]? = some t → args[j]? = some v → Value.okWide Try.prog W .any base t v := hval0
  have hW' := hW
  obtain ⟨p, q, hA0, hV, rfl, hfz, hnd⟩ := hW
  have hA : DataW.TrodAll enc Try.prog W 0 (fun _ => true) true Try.f6.params.toList args.toList ds p := hA0
  rw [Try.params6] at hA hval
  obtain ⟨v0, vs0, d0, ds0, p0, q0, hargs, rfl, rfl, h0, r0⟩ := trodAll_cons hA
  obtain ⟨v1, vs1, d1, ds1, p1, q1, rfl, rfl, rfl, h1, r1⟩ := trodAll_cons r0
  obtain ⟨v2, vs2, d2, ds2, p2, q2, rfl, rfl, rfl, h2, r2⟩ := trodAll_cons r1
  obtain ⟨rfl, rfl, rfl⟩ := trodAll_nil r2
  obtain rfl : args = #[v0, v1, v2] := by cases args; simp_all
  obtain ⟨rfl, rfl⟩ := trodVars_none hV
  obtain ⟨a0, rfl, rfl, rfl, w0⟩ := open_int Try.underlying3 (hval 0 3 v0 rfl rfl) h0
  obtain ⟨a1, rfl, rfl, rfl, w1⟩ := open_int Try.underlying3 (hval 1 3 v1 rfl rfl) h1
  obtain ⟨a2, len2, cap2, rfl⟩ := okWide_slice Try.underlying34 (hval 2 34 v2 rfl rfl)
  have k2 := h2
  have lt2 : ∀ x ∈ p2, x.block < W.heap.size := by obtain ⟨m, hm⟩ := k2; exact DataW.trod_lt m _ _ _ hm
  obtain ⟨z2, w2⟩ := open_arg2 W base h2
  clear hA0 hval0
  refine (walk W a0 w0 a1 w1 a2 len2 cap2 z2 w2).mono fun e W' ⟨he, hk⟩ => ?_
  subst he
  have bel := Keep.below hk
  exact ⟨_, rfl, _, _, _, [], _, [], hW', trodAll_mk1 (shut_bool Try.underlying4 _), (trodAll_cons_mk (shut_int Try.underlying3 w0) (trodAll_cons_mk (shut_int Try.underlying3 w1) (trodAll_cons_mk (Below.trod laidOut (by kernel_rfl) (of_decide_eq_true (by kernel_rfl)) k2 bel lt2) trodAll_mk0))), rfl, bel.frame _, fun h => by cases h⟩

theorem over : Rows.voteLateRow.holds Try.pinned (OpenSpec.ofChange Rows.voteLateSpec) :=
  OpenClaim.holds_of_wide 6 Try.f6 rfl rfl rfl rfl rfl rfl rfl ⟨rfl, rfl, rfl, rfl, rfl⟩ rfl rfl rfl rfl rfl (by kernel_rfl) Try.func6 (by kernel_rfl)
    (of_decide_eq_true (by kernel_rfl)) (by unfold Func.isWrapper; rw [if_neg (of_decide_eq_false (by kernel_rfl))]; exact ⟨rfl, rfl⟩)
    (fun os started H enc _ => lifted os started H enc)

/-- The statement. -/
theorem proved : Rows.VoteLateSaid := over
#print axioms proved
end Go.Proofs.Ytlbpmhpcoihlnaa.voteLate
