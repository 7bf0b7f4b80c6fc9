/- VoteOrder: the law returns true and changes nothing that was there. No conditions. -/
import Derived.Test.YtlbpmhpcoihlnaaArgs18
import Derived.Deep.CutRange
import Derived.Test.YtlbpmhpcoihlnaaRows
import Derived.WalkKit
import Derived.ProofKit
import Derived.OpenShut
import Derived.ShutString
import Derived.ChangeOld
import Derived.Below
namespace Go.Proofs.Ytlbpmhpcoihlnaa.voteOrder
open Go Go.ChangeShapes Go.WideShapes Go.ChangeAt Go.RowKit
open Go.ChangeMaps (open_string shut_string)

theorem own : ownKnob Try.prog.godebug = none := by kernel_rfl
theorem laidOut : laidOutB Try.prog = true := by kernel_rfl

theorem open_arg1 {H : Type} {enc : TypeId × Value → H} {a : Option Addr} {len cap : Nat} {d : DataW H} {p : List MemPlace} (W : World) (_base : Nat)
    (h : DataW.Trod enc Try.prog W 0 (fun _ => true) true 34 (.slice a len cap) d p) : ∃ l : List Bool, l.length = len ∧ SlBo W a cap l := open_bools h
theorem infoI64 : (Try.prog.info? 3).map (fun i => (i.zero, i.size, i.bytes)) = some (some (.int .i64 0), 1, 8) := by kernel_rfl
theorem tmod_bounds (a m : Int) (hm : 0 < m) : -m < a.tmod m ∧ a.tmod m < m := by
  by_cases h : 0 ≤ a
  · rw [Int.tmod_eq_emod_of_nonneg h]
    have := Int.emod_nonneg a (b := m) (by omega)
    have := Int.emod_lt_of_pos a hm
    omega
  · have e : a = -(-a) := by omega
    rw [e, Int.neg_tmod, Int.tmod_eq_emod_of_nonneg (by omega)]
    have := Int.emod_nonneg (-a) (b := m) (by omega)
    have := Int.emod_lt_of_pos (-a) hm
    omega
theorem tmod_pos (a m : Int) (ha : 0 ≤ a) (hm : 0 < m) : 0 ≤ a.tmod m ∧ a.tmod m < m := by
  rw [Int.tmod_eq_emod_of_nonneg ha]
  exact ⟨Int.emod_nonneg a (by omega), Int.emod_lt_of_pos a hm⟩
def rangeI (n : Nat) : List Int := (List.range n).map fun k : Nat => (k : Int)
theorem rangeI_length (n : Nat) : (rangeI n).length = n := by simp [rangeI]
theorem rangeI_succ (n : Nat) : rangeI (n + 1) = rangeI n ++ [(n : Int)] := by simp [rangeI, List.range_succ]
theorem mem_rangeI {n : Nat} {x : Int} : x ∈ rangeI n ↔ ∃ j : Nat, j < n ∧ x = j := by
  simp [rangeI, eq_comm]
theorem row_sli {w : World} {ao : Option Addr} {cp n : Nat} {l : List Int} (hl : l.length = n) (h : w.ownsRow 0 3 1 (.slice ao n cp) n (l.map (.int .i64))) (hw : ∀ x ∈ l, (Lit.int .i64 x).wf = true) : SlI w ao cp l := by
  subst hl
  rcases h.2 with ⟨e, he⟩ | ⟨g, cap, cur, e, _, hg, hn, hc, hcs, htk⟩
  · injection e with e1 e2 e3
    have : l = [] := List.eq_nil_of_length_eq_zero (by omega)
    subst this
    exact ⟨by simp, by unfold maxLen; omega, by simp, by simp⟩
  · injection e with e1 e2 e3
    subst e1 e3
    refine ⟨hn, hc, hw, fun i hi => ⟨g, 0, rfl, ?_⟩⟩
    rw [Nat.zero_add, h.cellAt i (by omega), List.getElem?_map, List.getElem?_eq_getElem hi]
    rfl
theorem bal_keepF {F : Nat → Prop} {w w' : World} {p by_ bn n : Nat} {ks : List Int} {yes : Int → Bool} {ns : List Int} (h : BalI w p by_ bn n ks yes ns) (hk : Keep F w w') (h1 : ¬ F p) (h2 : ¬ F by_) (h3 : ¬ F bn) : BalI w' p by_ bn n ks yes ns :=
  ⟨by rw [hk.block p (lt_of_heap h.row) h1]; exact h.row, h.ym.keep hk h2, h.nm.keep hk h3, h.ne⟩
def wantO (Y : Nat → Bool) (i : Nat) : Int := if (List.range i).all Y = true then 1 else 2
theorem wantO_succ (Y : Nat → Bool) (i : Nat) : wantO Y (i + 1) = if Y i = true then wantO Y i else 2 := by
  unfold wantO
  rw [List.range_succ, List.all_append]
  cases h : Y i <;> simp [h]
/-- How the ballot stands behind the votes of the first i rounds: who has said what. -/
structure Said (Y : Nat → Bool) (k : Nat → Nat) (i : Nat) (yes : Int → Bool) (ns : List Int) : Prop where
  y : ∀ x, yes x = true → ∃ j, j < i ∧ x = (k j : Int)
  y2 : ∀ j, j < i → Y (k j) = true → yes (k j) = true
  n : ∀ x, x ∈ ns ↔ ∃ j, j < i ∧ x = (k j : Int) ∧ Y (k j) = false
theorem Said.start (Y : Nat → Bool) (k : Nat → Nat) : Said Y k 0 (fun _ => false) [] := ⟨by simp, by simp, by simp⟩
theorem said_how {Y : Nat → Bool} {k : Nat → Nat} {m : Nat} {ks : List Int} {yes : Int → Bool} {ns : List Int} (h : Said Y k m yes ns) (hks : ∀ x, x ∈ ks ↔ x ∈ rangeI m) (hsur : ∀ j, j < m → ∃ i, i < m ∧ k i = j) (hlt : ∀ i, i < m → k i < m) :
    missD ks yes ns = [] ∧ howD ks yes ns = wantO Y m := by
  have hm : missD ks yes ns = [] := missD_nil.2 fun x hx => by
    obtain ⟨j, hj, rfl⟩ := mem_rangeI.1 ((hks x).1 hx)
    obtain ⟨i, hi, rfl⟩ := hsur j hj
    rcases hy : Y (k i) with _ | _
    · have := (h.n (k i : Int)).2 ⟨i, hi, rfl, hy⟩
      simp [votedB, memB_yes this]
    · simp [votedB, memB_yes hx, h.y2 i hi hy]
  refine ⟨hm, ?_⟩
  unfold howD wantO
  by_cases hn : ns = []
  · rw [if_pos hn, if_pos hm, if_pos]
    rw [List.all_eq_true]
    intro j hj
    obtain ⟨i, hi, rfl⟩ := hsur j (List.mem_range.1 hj)
    rcases hy : Y (k i) with _ | _
    · have := (h.n (k i : Int)).2 ⟨i, hi, rfl, hy⟩
      rw [hn] at this; cases this
    · rfl
  · rw [if_neg hn, if_neg]
    intro hall
    obtain ⟨x, hx⟩ := List.exists_mem_of_ne_nil _ hn
    obtain ⟨i, hi, rfl, hy⟩ := (h.n x).1 hx
    have := List.all_eq_true.1 hall (k i) (List.mem_range.2 (hlt i hi))
    rw [hy] at this; cases this
/-- One vote more. -/
theorem Said.step {Y : Nat → Bool} {k : Nat → Nat} {i : Nat} {ks : List Int} {yes : Int → Bool} {ns : List Int} (h : Said Y k i yes ns) (hin : (k i : Int) ∈ ks) (hnew : ∀ j, j < i → k j ≠ k i) :
    Said Y k (i + 1) (yesV ks yes ns (k i) (Y (k i))) (noV ks ns (k i) (Y (k i))) := by
  have hnn : (k i : Int) ∉ ns := fun e => by
    obtain ⟨j, hj, e, _⟩ := (h.n _).1 e
    exact hnew j hj (by omega)
  rcases hy : Y (k i) with _ | _
  · have e1 : yesV ks yes ns (k i) false = yes := yesV_no (by simp)
    have e2 : noV ks ns (k i) false = (k i : Int) :: ns := if_pos ⟨hin, rfl⟩
    rw [e1, e2]
    refine ⟨fun x hx => ?_, fun j hj hyj => ?_, fun x => ?_⟩
    · obtain ⟨j, hj, e⟩ := h.y x hx
      exact ⟨j, by omega, e⟩
    · rcases Nat.lt_succ_iff_lt_or_eq.1 hj with hlt | rfl
      · exact h.y2 j hlt hyj
      · rw [hy] at hyj; cases hyj
    · rw [List.mem_cons, h.n x]
      constructor
      · rintro (rfl | ⟨j, hj, e, hyj⟩)
        · exact ⟨i, by omega, rfl, hy⟩
        · exact ⟨j, by omega, e, hyj⟩
      · rintro ⟨j, hj, e, hyj⟩
        rcases Nat.lt_succ_iff_lt_or_eq.1 hj with hlt | rfl
        · exact .inr ⟨j, hlt, e, hyj⟩
        · exact .inl e
  · have e1 : yesV ks yes ns (k i) true = fun z => if z = (k i : Int) then true else yes z := if_pos ⟨hin, rfl, hnn⟩
    have e2 : noV ks ns (k i) true = ns := noV_no (by simp)
    rw [e1, e2]
    refine ⟨fun x hx => ?_, fun j hj hyj => ?_, fun x => ?_⟩
    · by_cases hxk : x = (k i : Int)
      · exact ⟨i, by omega, hxk⟩
      · simp only [if_neg hxk] at hx
        obtain ⟨j, hj, e⟩ := h.y x hx
        exact ⟨j, by omega, e⟩
    · rcases Nat.lt_succ_iff_lt_or_eq.1 hj with hlt | rfl
      · by_cases hxk : (k j : Int) = (k i : Int)
        · simp [hxk]
        · simp only [if_neg hxk]; exact h.y2 j hlt hyj
      · simp
    · rw [h.n x]
      constructor
      · rintro ⟨j, hj, e, hyj⟩; exact ⟨j, by omega, e, hyj⟩
      · rintro ⟨j, hj, e, hyj⟩
        rcases Nat.lt_succ_iff_lt_or_eq.1 hj with hlt | rfl
        · exact ⟨j, hlt, e, hyj⟩
        · rw [hy] at hyj; cases hyj
/-- A yes behind it turns nothing of what was said. -/
theorem Said.again {Y : Nat → Bool} {k : Nat → Nat} {i : Nat} {ks : List Int} {yes : Int → Bool} {ns : List Int} (h : Said Y k (i + 1) yes ns) :
    Said Y k (i + 1) (yesV ks yes ns (k i) true) (noV ks ns (k i) true) := by
  have e2 : noV ks ns (k i) true = ns := noV_no (by simp)
  rw [e2]
  by_cases hc : (k i : Int) ∈ ks ∧ true = true ∧ (k i : Int) ∉ ns
  · have e1 : yesV ks yes ns (k i) true = fun z => if z = (k i : Int) then true else yes z := if_pos hc
    rw [e1]
    refine ⟨fun x hx => ?_, fun j hj hyj => ?_, h.n⟩
    · by_cases hxk : x = (k i : Int)
      · exact ⟨i, by omega, hxk⟩
      · simp only [if_neg hxk] at hx
        exact h.y x hx
    · by_cases hxk : (k j : Int) = (k i : Int)
      · simp [hxk]
      · simp only [if_neg hxk]; exact h.y2 j hj hyj
  · rw [yesV_no hc]
    exact h
theorem perm7 : ∀ m, m < 8 → ∀ s, s < m → ∀ j, j < m → ∃ i, i < m ∧ (i + s) % m = j := by decide
theorem inj7 : ∀ m, m < 8 → ∀ s, s < m → ∀ i, i < m → ∀ j, j < i → (j + s) % m ≠ (i + s) % m := by decide
theorem wf_small {x : Int} (h : 0 ≤ x ∧ x ≤ 100) : (Lit.int .i64 x).wf = true := WalkArith.wf_i64 (by omega)
set_option maxHeartbeats 8000000 in
theorem walk (w : World) (n0 : Int) (hn0 : (Lit.int .i64 n0).wf = true) (a1 : Option Addr) (len1 cap1 : Nat) (z : List Bool) (hz : z.length = len1 ∧ SlBo w a1 cap1 z) (turn : Int) (ht : (Lit.int .i64 turn).wf = true) :
    Calls Try.prog 4 #[.int .i64 n0, .slice a1 len1 cap1, .int .i64 turn] w fun e w' => e = .returned (.bool true) ∧ Keep NoF w w' := by
  obtain ⟨hzl, sz⟩ := hz
  subst hzl
  have hn := bounds_i64 hn0
  have htb := bounds_i64 ht
  have c1 := sz.1; have c1m := sz.2.1
  unfold maxLen at c1m
  obtain ⟨r, hr⟩ : ∃ r, n0.tmod 7 = r := ⟨_, rfl⟩
  have hrb := tmod_bounds n0 7 (by omega)
  rw [hr] at hrb
  obtain ⟨q, hq⟩ : ∃ q, (r + 7).tmod 7 = q := ⟨_, rfl⟩
  have hqb := tmod_pos (r + 7) 7 (by omega) (by omega)
  rw [hq] at hqb
  obtain ⟨m, hm⟩ : ∃ m : Nat, 1 + q = m := ⟨(1 + q).toNat, by omega⟩
  have hm1 : 1 ≤ m ∧ m ≤ 7 := by omega
  obtain ⟨t1, ht1⟩ : ∃ t1, turn.tmod (m : Int) = t1 := ⟨_, rfl⟩
  have htb1 := tmod_bounds turn m (by omega)
  rw [ht1] at htb1
  obtain ⟨s, hs⟩ : ∃ s : Nat, (t1 + m).tmod (m : Int) = s := ⟨((t1 + m).tmod (m : Int)).toNat, by have := tmod_pos (t1 + m) m (by omega) (by omega); omega⟩
  have hsm : s < m := by have := tmod_pos (t1 + m) m (by omega) (by omega); omega
  obtain ⟨Y, hY⟩ : ∃ Y : Nat → Bool, Y = fun j => z.getD j true := ⟨_, rfl⟩
  have HY := Lib.hid hY; have S1 := Lib.hid sz
  have HM7 := Lib.hid hm1
  clear hY sz hn0 ht
  go_enter Try.func4, Try.ntmps4
  go_wp2_with fail
  refine (begun18_any w).mono ?_
  rintro e w1 ⟨rfl, hk⟩
  have K1 := Lib.hid hk
  clear hk
  go_wp2_with fail
  go_loopw [8, 9] (fun lv iv wr => ∃ (j : Nat) (ao : Option Addr) (cp : Nat), j ≤ m ∧ iv = .int .i64 j ∧ lv = .slice ao j cp ∧ wr.ownsRow 0 3 1 (.slice ao j cp) j ((rangeI j).map (.int .i64)) ∧ Keep NoF w1 wr ∧ (∀ g, (Value.slice ao j cp).ownBlock = some g → w1.heap.size ≤ g)) (fun _ iv _ => m - (intOf iv).toNat)
  case atStart => exact ⟨0, none, 0, Nat.zero_le _, rfl, rfl, World.ownsRow_nil _ _ _ _, Keep.refl _ _, nofun⟩
  case round =>
    obtain ⟨j, ao, cp, hj, rfl, rfl, hO, hk, hnew⟩ := hrel
    have HO := Lib.hid hO; have HK := Lib.hid hk; have HN := Lib.hid hnew
    clear hO hk hnew
    by_cases hlt : j < m
    · have hlt2 : (j : Int) < m := by omega
      go_wp2_with (at_builtin; refine wpList_app 22 22 3 (.int .i64 0) 1 8 Try.underlying22 infoI64 rfl (by decide) (by decide) rfl rfl rfl rfl (HO.out.alloc _) (Src.one Try.underlying22 (heap_new wr _) rfl 1) (by omega) ?_)
      intro a9 c9 w9 hown hgr hfr
      have hO9 : w9.ownsRow 0 3 1 (.slice a9 (j + 1) c9) (j + 1) ((rangeI (j + 1)).map (.int .i64)) := by rw [rangeI_succ, List.map_append]; exact hown
      have hk9 : Keep NoF w1 w9 := (HK.out.alloc _).grown hgr (fun k hk e => by have := HN.out k e; omega)
      have hn9 : ∀ g, (Value.slice a9 (j + 1) c9).ownBlock = some g → w1.heap.size ≤ g := fun g hg => by
        rcases hfr with f | f
        · exact HN.out g (by rw [← f]; exact hg)
        · rw [f] at hg; injection hg with hg; have := HK.out.size; omega
      have HO9 := Lib.hid hO9; have HK9 := Lib.hid hk9; have HN9 := Lib.hid hn9
      clear hown hgr hfr hO9 hk9 hn9
      go_wp2_with fail
      go_roundw
      case rel => exact ⟨j + 1, a9, c9, by omega, by go_num, rfl, HO9.out, HK9.out, HN9.out⟩
      case measure => simp [intOf]; omega
    · have hlt2 : ¬ (j : Int) < m := by omega
      obtain rfl : j = m := by omega
      have hsl := row_sli (rangeI_length j) HO.out (fun x hx => by obtain ⟨k, hk, rfl⟩ := mem_rangeI.1 hx; exact wf_small (by have := HM7.out; omega))
      have HSL := Lib.hid hsl
      clear hsl hlt
      go_wp2_with fail
      refine (new_any ao cp (rangeI j) j (rangeI_length j) wr HSL.out (by have := HM7.out; omega)).mono ?_
      rintro e w2 ⟨pa, bya, bna, ksa, rfl, hA, hma, hka, hpa, hba, hna⟩
      have HA2 := Lib.hid hA; have HMA := Lib.hid hma; have K2 := Lib.hid ((K1.out.trans' HK.out).trans' hka)
      have hlta : pa < w2.heap.size ∧ bya < w2.heap.size ∧ bna < w2.heap.size := ⟨lt_of_heap hA.row, hA.ym.lt, hA.nm.lt⟩
      have HSL2 := Lib.hid (HSL.out.keep hka (fun _ _ f => f))
      have hs1 := (K1.out.trans' HK.out).size
      have FA : Hid (w.heap.size ≤ bya ∧ w.heap.size ≤ bna) := Lib.hid ⟨by omega, by omega⟩
      clear hA hma hka hpa hba hna
      go_wp2_with fail
      refine (new_any ao cp (rangeI j) j (rangeI_length j) w2 HSL2.out (by have := HM7.out; omega)).mono ?_
      rintro e w3 ⟨pb, byb, bnb, ksb, rfl, hB, hmb, hkb, hpb, hbb, hnb⟩
      have HB3 := Lib.hid hB; have HMB := Lib.hid hmb; have K3 := Lib.hid (K2.out.trans' hkb); have HA3 := Lib.hid (HA2.out.keep hkb)
      have hs2 := K2.out.size
      have FB : Hid (w.heap.size ≤ byb ∧ w.heap.size ≤ bnb) := Lib.hid ⟨by omega, by omega⟩
      have DIS : Hid (¬ VF bya bna pb ∧ ¬ VF bya bna byb ∧ ¬ VF bya bna bnb) := Lib.hid ⟨fun f => by rcases f with f | f <;> omega, fun f => by rcases f with f | f <;> omega, fun f => by rcases f with f | f <;> omega⟩
      have DIS2 : Hid (¬ VF byb bnb pa ∧ ¬ VF byb bnb bya ∧ ¬ VF byb bnb bna) := Lib.hid ⟨fun f => by rcases f with f | f <;> omega, fun f => by rcases f with f | f <;> omega, fun f => by rcases f with f | f <;> omega⟩
      clear hB hmb hkb hpb hbb hnb hs1 hs2 hlta HO HK HN HSL HSL2 hlt2
      obtain ⟨m, rfl⟩ : ∃ m, m = j := ⟨_, rfl⟩
      go_wp2_with fail
      go_loopw [12, 13] (fun wv iv wr => ∃ i : Nat, i ≤ m ∧ iv = .int .i64 i ∧ wv = .int .i64 (wantO Y i) ∧ ∃ ya na yb nb, BalI wr pa bya bna (1000 + 2 * i) ksa ya na ∧ BalI wr pb byb bnb (1000 + i) ksb yb nb ∧ Said Y (fun j => j) i ya na ∧ Said Y (fun j => (j + s) % m) i yb nb ∧ Keep NoF w wr) (fun _ iv _ => m - (intOf iv).toNat)
      case atStart => exact ⟨0, Nat.zero_le _, rfl, rfl, _, _, _, _, HA3.out, HB3.out, Said.start _ _, Said.start _ _, K3.out⟩
      case round =>
        obtain ⟨i, hi, rfl, rfl, ya, na, yb, nb, hA, hB, sA, sB, hk⟩ := hrel
        have HA := Lib.hid hA; have HB := Lib.hid hB; have SA := Lib.hid sA; have SB := Lib.hid sB; have KW := Lib.hid hk
        clear hA hB sA sB hk HA2 HA3 HB3 K3 K2
        by_cases hlt : i < m
        · have hlt2 : (i : Int) < m := by omega
          obtain ⟨kk, hkk⟩ : ∃ kk, (i + s) % m = kk := ⟨_, rfl⟩
          have hkm : kk < m := by rw [← hkk]; exact Nat.mod_lt _ (by omega)
          have hk3 : ((i : Int) + s).tmod (m : Int) = kk := by
            rw [Int.tmod_eq_emod_of_nonneg (by omega), ← hkk]; norm_cast
          have hwi : (Lit.int .i64 (i : Int)).wf = true := wf_small (by have := HM7.out; omega)
          have hwk : (Lit.int .i64 (kk : Int)).wf = true := wf_small (by have := HM7.out; omega)
          have HINA : Hid ((i : Int) ∈ ksa) := Lib.hid ((HMA.out _).2 (mem_rangeI.2 ⟨i, hlt, rfl⟩))
          have HINB : Hid ((kk : Int) ∈ ksb) := Lib.hid ((HMB.out _).2 (mem_rangeI.2 ⟨kk, hkm, rfl⟩))
          have HNB : Hid (∀ j, j < i → (j + s) % m ≠ (i + s) % m) := Lib.hid (inj7 m (by have := HM7.out; omega) s hsm i hlt)
          have HKK := Lib.hid hkk
          have hws := wantO_succ Y i
          clear hkk
          by_cases hy : i < z.length
          · have hy1 : (i : Int) < z.length := by omega
            have hy2 : ¬ ((z.length : Int) ≤ i) := by omega
            have hy2d : decide (z.length ≤ i) = false := by simp; omega
            obtain ⟨g2, o2, e2, D2⟩ := S1.out.2.2 i hy
            have d2 := KW.out.cell' D2 (fun f => f)
            have hyi : z[i] = Y i := by rw [HY.out]; simp [List.getD_eq_getElem?_getD, List.getElem?_eq_getElem hy]
            rw [hyi] at d2
            subst e2
            clear D2 hyi
            rcases hyv : Y i with _ | _
            · rw [hyv] at d2 hws
              have HYI := Lib.hid hyv; have HWS := Lib.hid hws
              clear hyv hws
              go_wp2_with fail
              refine (vote_any pa bya bna (1000 + 2 * i) ksa ya na i hwi false wr HA.out (by omega)).mono ?_
              rintro e w5 ⟨rfl, hA5, hk5⟩
              have HA5 := Lib.hid hA5
              have HB5 := Lib.hid (bal_keepF HB.out hk5 DIS.out.1 DIS.out.2.1 DIS.out.2.2)
              have K5 := Lib.hid (KW.out.trans hk5 (fun _ _ f => f) (fun j hj f => by have := FA.out; rcases f with f | f <;> omega))
              clear hA5 hk5
              go_wp2_with fail
              refine (vote_any pa bya bna (1000 + 2 * i + 1) ksa _ _ i hwi true w5 HA5.out (by omega)).mono ?_
              rintro e w6 ⟨rfl, hA6, hk6⟩
              have HA6 := Lib.hid hA6
              have HB6 := Lib.hid (bal_keepF HB5.out hk6 DIS.out.1 DIS.out.2.1 DIS.out.2.2)
              have K6 := Lib.hid (K5.out.trans hk6 (fun _ _ f => f) (fun j hj f => by have := FA.out; rcases f with f | f <;> omega))
              clear hA6 hk6
              by_cases hk : kk < z.length
              · have hk1 : (kk : Int) < z.length := by omega
                have hk2 : ¬ ((z.length : Int) ≤ kk) := by omega
                have hk2d : decide (z.length ≤ kk) = false := by simp; omega
                obtain ⟨g3, o3, e3, D3⟩ := S1.out.2.2 kk hk
                have d3 := K6.out.cell' D3 (fun f => f)
                have hy3 : z[kk] = Y kk := by rw [HY.out]; simp [List.getD_eq_getElem?_getD, List.getElem?_eq_getElem hk]
                rw [hy3] at d3
                (first | subst e3 | (injection e3 with e3; injection e3 with e4 e5; subst e4 e5))
                clear D3 hy3
                go_wp2_with fail
                refine (vote_any pb byb bnb (1000 + i) ksb yb nb kk hwk (Y kk) w6 HB6.out (by omega)).mono ?_
                rintro e w7 ⟨rfl, hB7, hk7⟩
                have HB7 := Lib.hid hB7
                have HA7 := Lib.hid (bal_keepF HA6.out hk7 DIS2.out.1 DIS2.out.2.1 DIS2.out.2.2)
                have K7 := Lib.hid (K6.out.trans hk7 (fun _ _ f => f) (fun j hj f => by have := FB.out; rcases f with f | f <;> omega))
                clear hB7 hk7
                go_wp2_with fail
                go_roundw
                case rel =>
                  refine ⟨i + 1, by omega, by go_num, by rw [HWS.out]; rfl, _, _, _, _, HA7.out.mono (by omega), HB7.out.mono (by omega), ?_, ?_, K7.out⟩
                  · have h1 := SA.out.step (k := fun j => j) HINA.out (fun j hj => by omega)
                    rw [HYI.out] at h1
                    exact h1.again
                  · have h1 := SB.out.step (k := fun j => (j + s) % m) (by rw [HKK.out]; exact HINB.out) HNB.out
                    rw [HKK.out] at h1
                    exact h1
                case measure => simp [intOf]; omega
              · have hk2 : (z.length : Int) ≤ kk := by omega
                have hy3 : Y kk = true := by rw [HY.out]; simp [List.getD_eq_getElem?_getD, List.getElem?_eq_none (Nat.le_of_not_lt hk)]
                go_wp2_with fail
                refine (vote_any pb byb bnb (1000 + i) ksb yb nb kk hwk true w6 HB6.out (by omega)).mono ?_
                rintro e w7 ⟨rfl, hB7, hk7⟩
                have HB7 := Lib.hid hB7
                have HA7 := Lib.hid (bal_keepF HA6.out hk7 DIS2.out.1 DIS2.out.2.1 DIS2.out.2.2)
                have K7 := Lib.hid (K6.out.trans hk7 (fun _ _ f => f) (fun j hj f => by have := FB.out; rcases f with f | f <;> omega))
                clear hB7 hk7
                go_wp2_with fail
                go_roundw
                case rel =>
                  refine ⟨i + 1, by omega, by go_num, by rw [HWS.out]; rfl, _, _, _, _, HA7.out.mono (by omega), HB7.out.mono (by omega), ?_, ?_, K7.out⟩
                  · have h1 := SA.out.step (k := fun j => j) HINA.out (fun j hj => by omega)
                    rw [HYI.out] at h1
                    exact h1.again
                  · have h1 := SB.out.step (k := fun j => (j + s) % m) (by rw [HKK.out]; exact HINB.out) HNB.out
                    rw [HKK.out] at h1
                    rw [hy3] at h1
                    exact h1
                case measure => simp [intOf]; omega
            · rw [hyv] at d2 hws
              have HYI := Lib.hid hyv; have HWS := Lib.hid hws
              clear hyv hws
              go_wp2_with fail
              refine (vote_any pa bya bna (1000 + 2 * i) ksa ya na i hwi true wr HA.out (by omega)).mono ?_
              rintro e w5 ⟨rfl, hA5, hk5⟩
              have HA5 := Lib.hid hA5
              have HB5 := Lib.hid (bal_keepF HB.out hk5 DIS.out.1 DIS.out.2.1 DIS.out.2.2)
              have K5 := Lib.hid (KW.out.trans hk5 (fun _ _ f => f) (fun j hj f => by have := FA.out; rcases f with f | f <;> omega))
              clear hA5 hk5
              go_wp2_with fail
              refine (vote_any pa bya bna (1000 + 2 * i + 1) ksa _ _ i hwi true w5 HA5.out (by omega)).mono ?_
              rintro e w6 ⟨rfl, hA6, hk6⟩
              have HA6 := Lib.hid hA6
              have HB6 := Lib.hid (bal_keepF HB5.out hk6 DIS.out.1 DIS.out.2.1 DIS.out.2.2)
              have K6 := Lib.hid (K5.out.trans hk6 (fun _ _ f => f) (fun j hj f => by have := FA.out; rcases f with f | f <;> omega))
              clear hA6 hk6
              by_cases hk : kk < z.length
              · have hk1 : (kk : Int) < z.length := by omega
                have hk2 : ¬ ((z.length : Int) ≤ kk) := by omega
                have hk2d : decide (z.length ≤ kk) = false := by simp; omega
                obtain ⟨g3, o3, e3, D3⟩ := S1.out.2.2 kk hk
                have d3 := K6.out.cell' D3 (fun f => f)
                have hy3 : z[kk] = Y kk := by rw [HY.out]; simp [List.getD_eq_getElem?_getD, List.getElem?_eq_getElem hk]
                rw [hy3] at d3
                (first | subst e3 | (injection e3 with e3; injection e3 with e4 e5; subst e4 e5))
                clear D3 hy3
                go_wp2_with fail
                refine (vote_any pb byb bnb (1000 + i) ksb yb nb kk hwk (Y kk) w6 HB6.out (by omega)).mono ?_
                rintro e w7 ⟨rfl, hB7, hk7⟩
                have HB7 := Lib.hid hB7
                have HA7 := Lib.hid (bal_keepF HA6.out hk7 DIS2.out.1 DIS2.out.2.1 DIS2.out.2.2)
                have K7 := Lib.hid (K6.out.trans hk7 (fun _ _ f => f) (fun j hj f => by have := FB.out; rcases f with f | f <;> omega))
                clear hB7 hk7
                go_wp2_with fail
                go_roundw
                case rel =>
                  refine ⟨i + 1, by omega, by go_num, by rw [HWS.out]; rfl, _, _, _, _, HA7.out.mono (by omega), HB7.out.mono (by omega), ?_, ?_, K7.out⟩
                  · have h1 := SA.out.step (k := fun j => j) HINA.out (fun j hj => by omega)
                    rw [HYI.out] at h1
                    exact h1.again
                  · have h1 := SB.out.step (k := fun j => (j + s) % m) (by rw [HKK.out]; exact HINB.out) HNB.out
                    rw [HKK.out] at h1
                    exact h1
                case measure => simp [intOf]; omega
              · have hk2 : (z.length : Int) ≤ kk := by omega
                have hy3 : Y kk = true := by rw [HY.out]; simp [List.getD_eq_getElem?_getD, List.getElem?_eq_none (Nat.le_of_not_lt hk)]
                go_wp2_with fail
                refine (vote_any pb byb bnb (1000 + i) ksb yb nb kk hwk true w6 HB6.out (by omega)).mono ?_
                rintro e w7 ⟨rfl, hB7, hk7⟩
                have HB7 := Lib.hid hB7
                have HA7 := Lib.hid (bal_keepF HA6.out hk7 DIS2.out.1 DIS2.out.2.1 DIS2.out.2.2)
                have K7 := Lib.hid (K6.out.trans hk7 (fun _ _ f => f) (fun j hj f => by have := FB.out; rcases f with f | f <;> omega))
                clear hB7 hk7
                go_wp2_with fail
                go_roundw
                case rel =>
                  refine ⟨i + 1, by omega, by go_num, by rw [HWS.out]; rfl, _, _, _, _, HA7.out.mono (by omega), HB7.out.mono (by omega), ?_, ?_, K7.out⟩
                  · have h1 := SA.out.step (k := fun j => j) HINA.out (fun j hj => by omega)
                    rw [HYI.out] at h1
                    exact h1.again
                  · have h1 := SB.out.step (k := fun j => (j + s) % m) (by rw [HKK.out]; exact HINB.out) HNB.out
                    rw [HKK.out] at h1
                    rw [hy3] at h1
                    exact h1
                case measure => simp [intOf]; omega
          · have hy2 : (z.length : Int) ≤ i := by omega
            have hyv : Y i = true := by rw [HY.out]; simp [List.getD_eq_getElem?_getD, List.getElem?_eq_none (Nat.le_of_not_lt hy)]
            rw [hyv] at hws
            have HYI := Lib.hid hyv; have HWS := Lib.hid hws
            clear hyv hws
            go_wp2_with fail
            refine (vote_any pa bya bna (1000 + 2 * i) ksa ya na i hwi true wr HA.out (by omega)).mono ?_
            rintro e w5 ⟨rfl, hA5, hk5⟩
            have HA5 := Lib.hid hA5
            have HB5 := Lib.hid (bal_keepF HB.out hk5 DIS.out.1 DIS.out.2.1 DIS.out.2.2)
            have K5 := Lib.hid (KW.out.trans hk5 (fun _ _ f => f) (fun j hj f => by have := FA.out; rcases f with f | f <;> omega))
            clear hA5 hk5
            go_wp2_with fail
            refine (vote_any pa bya bna (1000 + 2 * i + 1) ksa _ _ i hwi true w5 HA5.out (by omega)).mono ?_
            rintro e w6 ⟨rfl, hA6, hk6⟩
            have HA6 := Lib.hid hA6
            have HB6 := Lib.hid (bal_keepF HB5.out hk6 DIS.out.1 DIS.out.2.1 DIS.out.2.2)
            have K6 := Lib.hid (K5.out.trans hk6 (fun _ _ f => f) (fun j hj f => by have := FA.out; rcases f with f | f <;> omega))
            clear hA6 hk6
            by_cases hk : kk < z.length
            · have hk1 : (kk : Int) < z.length := by omega
              have hk2 : ¬ ((z.length : Int) ≤ kk) := by omega
              have hk2d : decide (z.length ≤ kk) = false := by simp; omega
              obtain ⟨g3, o3, e3, D3⟩ := S1.out.2.2 kk hk
              have d3 := K6.out.cell' D3 (fun f => f)
              have hy3 : z[kk] = Y kk := by rw [HY.out]; simp [List.getD_eq_getElem?_getD, List.getElem?_eq_getElem hk]
              rw [hy3] at d3
              (first | subst e3 | (injection e3 with e3; injection e3 with e4 e5; subst e4 e5))
              clear D3 hy3
              go_wp2_with fail
              refine (vote_any pb byb bnb (1000 + i) ksb yb nb kk hwk (Y kk) w6 HB6.out (by omega)).mono ?_
              rintro e w7 ⟨rfl, hB7, hk7⟩
              have HB7 := Lib.hid hB7
              have HA7 := Lib.hid (bal_keepF HA6.out hk7 DIS2.out.1 DIS2.out.2.1 DIS2.out.2.2)
              have K7 := Lib.hid (K6.out.trans hk7 (fun _ _ f => f) (fun j hj f => by have := FB.out; rcases f with f | f <;> omega))
              clear hB7 hk7
              go_wp2_with fail
              go_roundw
              case rel =>
                refine ⟨i + 1, by omega, by go_num, by rw [HWS.out]; rfl, _, _, _, _, HA7.out.mono (by omega), HB7.out.mono (by omega), ?_, ?_, K7.out⟩
                · have h1 := SA.out.step (k := fun j => j) HINA.out (fun j hj => by omega)
                  rw [HYI.out] at h1
                  exact h1.again
                · have h1 := SB.out.step (k := fun j => (j + s) % m) (by rw [HKK.out]; exact HINB.out) HNB.out
                  rw [HKK.out] at h1
                  exact h1
              case measure => simp [intOf]; omega
            · have hk2 : (z.length : Int) ≤ kk := by omega
              have hy3 : Y kk = true := by rw [HY.out]; simp [List.getD_eq_getElem?_getD, List.getElem?_eq_none (Nat.le_of_not_lt hk)]
              go_wp2_with fail
              refine (vote_any pb byb bnb (1000 + i) ksb yb nb kk hwk true w6 HB6.out (by omega)).mono ?_
              rintro e w7 ⟨rfl, hB7, hk7⟩
              have HB7 := Lib.hid hB7
              have HA7 := Lib.hid (bal_keepF HA6.out hk7 DIS2.out.1 DIS2.out.2.1 DIS2.out.2.2)
              have K7 := Lib.hid (K6.out.trans hk7 (fun _ _ f => f) (fun j hj f => by have := FB.out; rcases f with f | f <;> omega))
              clear hB7 hk7
              go_wp2_with fail
              go_roundw
              case rel =>
                refine ⟨i + 1, by omega, by go_num, by rw [HWS.out]; rfl, _, _, _, _, HA7.out.mono (by omega), HB7.out.mono (by omega), ?_, ?_, K7.out⟩
                · have h1 := SA.out.step (k := fun j => j) HINA.out (fun j hj => by omega)
                  rw [HYI.out] at h1
                  exact h1.again
                · have h1 := SB.out.step (k := fun j => (j + s) % m) (by rw [HKK.out]; exact HINB.out) HNB.out
                  rw [HKK.out] at h1
                  rw [hy3] at h1
                  exact h1
              case measure => simp [intOf]; omega
        · have hlt2 : ¬ (i : Int) < m := by omega
          obtain rfl : i = m := by omega
          obtain ⟨hma, hha⟩ := said_how SA.out HMA.out (fun j hj => ⟨j, hj, rfl⟩) (fun j hj => hj)
          obtain ⟨hmb, hhb⟩ := said_how SB.out HMB.out (perm7 i (by have := HM7.out; omega) s hsm) (fun j hj => Nat.mod_lt _ (by omega))
          obtain ⟨wa, hwa⟩ : ∃ x, wantO Y i = x := ⟨_, rfl⟩
          rw [hwa] at hha hhb ⊢
          have h1 := how_any pa bya bna (1000 + 2 * i) ksa ya na wr HA.out (by omega)
          have h2 := fun W hW => how_any pb byb bnb (1000 + i) ksb yb nb W hW (by omega)
          have h3 := fun W hW => missing_any pa bya bna (1000 + 2 * i) ksa ya na W hW (by omega)
          rw [hha] at h1
          rw [hhb] at h2
          rw [hma] at h3
          have H1 := Lib.hid h1; have H2 := Lib.hid h2; have H3 := Lib.hid h3
          clear h1 h2 h3 hma hha hmb hhb hwa
          go_wp2_with fail
          refine H1.out.mono ?_
          rintro e w5 ⟨rfl, hk5⟩
          have K5 := Lib.hid (KW.out.trans' hk5); have HA5 := Lib.hid (HA.out.keep hk5); have HB5 := Lib.hid (HB.out.keep hk5)
          clear hk5
          go_wp2_with fail
          refine (H2.out w5 HB5.out).mono ?_
          rintro e w6 ⟨rfl, hk6⟩
          have K6 := Lib.hid (K5.out.trans' hk6); have HA6 := Lib.hid (HA5.out.keep hk6)
          clear hk6
          go_wp2_with fail
          refine (H3.out w6 HA6.out).mono ?_
          rintro e w7 ⟨v, rfl, hrow, hk7, _⟩
          have K7 := Lib.hid (K6.out.trans' hk7)
          rcases hrow.2 with ⟨rfl, _⟩ | ⟨g, cap, cur, rfl, _⟩
          all_goals
            clear hrow hk7
            go_wp2_with fail
            go_ret
            exact ⟨rfl, K7.out⟩

set_option linter.unusedVariables false
set_option maxRecDepth 100000 in
theorem lifted (os : Os) (started : os.Started) (H : Type) (enc : TypeId × Value → H) :
    ReturnsInHanded {} Try.checked os 4 .any (Rows.voteOrderSpec.pre6 enc Try.prog Try.f4 Rows.voteOrderRow.domain false) (Rows.voteOrderSpec.post enc Try.prog Try.f4 false true false false) := by
  refine returnsInHanded_of_change (C := Try.checked) own started (by kernel_rfl) Try.func4
    (ChangeSpec.witness6 (enc := enc) (C := Try.checked) false ⟨#[], #[.int .i64 0, .slice none 0 0, .int .i64 0], []⟩ 8 (by kernel_rfl) (by kernel_rfl) (by kernel_rfl) (by kernel_rfl)) ?_
  intro W base args ds gs before hval0 hW hcnd _
  have hval : ∀ (j : Nat) t v, Try.f4.params[j]? = some t → args[j]? = some v → Value.okWide Try.prog W .any base t v := hval0
  have hW' := hW
  obtain ⟨p, q, hA0, hV, rfl, hfz, hnd⟩ := hW
  have hA : DataW.TrodAll enc Try.prog W 0 (fun _ => true) true Try.f4.params.toList args.toList ds p := hA0
  rw [Try.params4] at hA hval
  obtain ⟨v0, vs0, d0, ds0, p0, q0, hargs, rfl, rfl, h0, r0⟩ := trodAll_cons hA
  obtain ⟨v1, vs1, d1, ds1, p1, q1, rfl, rfl, rfl, h1, r1⟩ := trodAll_cons r0
  obtain ⟨v2, vs2, d2, ds2, p2, q2, rfl, rfl, rfl, h2, r2⟩ := trodAll_cons r1
  obtain ⟨rfl, rfl, rfl⟩ := trodAll_nil r2
  obtain rfl : args = #[v0, v1, v2] := by cases args; simp_all
  obtain ⟨rfl, rfl⟩ := trodVars_none hV
  obtain ⟨a0, rfl, rfl, rfl, w0⟩ := open_int Try.underlying3 (hval 0 3 v0 rfl rfl) h0
  obtain ⟨a1, len1, cap1, rfl⟩ := okWide_slice Try.underlying34 (hval 1 34 v1 rfl rfl)
  have k1 := h1
  have lt1 : ∀ x ∈ p1, x.block < W.heap.size := by obtain ⟨m, hm⟩ := k1; exact DataW.trod_lt m _ _ _ hm
  obtain ⟨z1, w1⟩ := open_arg1 W base h1
  obtain ⟨a2, rfl, rfl, rfl, w2⟩ := open_int Try.underlying3 (hval 2 3 v2 rfl rfl) h2
  clear hA0 hval0
  refine (walk W a0 w0 a1 len1 cap1 z1 w1 a2 w2).mono fun e W' ⟨he, hk⟩ => ?_
  subst he
  have bel := Keep.below hk
  exact ⟨_, rfl, _, _, _, [], _, [], hW', trodAll_mk1 (shut_bool Try.underlying4 _), (trodAll_cons_mk (shut_int Try.underlying3 w0) (trodAll_cons_mk (Below.trod laidOut (by kernel_rfl) (of_decide_eq_true (by kernel_rfl)) k1 bel lt1) (trodAll_cons_mk (shut_int Try.underlying3 w2) trodAll_mk0))), rfl, bel.frame _, fun h => by cases h⟩

theorem over : Rows.voteOrderRow.holds Try.pinned (OpenSpec.ofChange Rows.voteOrderSpec) :=
  OpenClaim.holds_of_wide 4 Try.f4 rfl rfl rfl rfl rfl rfl rfl ⟨rfl, rfl, rfl, rfl, rfl⟩ rfl rfl rfl rfl rfl (by kernel_rfl) Try.func4 (by kernel_rfl)
    (of_decide_eq_true (by kernel_rfl)) (by unfold Func.isWrapper; rw [if_neg (of_decide_eq_false (by kernel_rfl))]; exact ⟨rfl, rfl⟩)
    (fun os started H enc _ => lifted os started H enc)

/-- The statement. -/
theorem proved : Rows.VoteOrderSaid := over
#print axioms proved
end Go.Proofs.Ytlbpmhpcoihlnaa.voteOrder
