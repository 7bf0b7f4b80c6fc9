/- TimerAll: the law returns true and changes nothing that was there. No conditions. -/
import Derived.Test.YtidpfkehmokdfaaRowsI
import Derived.Deep.CutRange
import Derived.Deep.CutBlock
import Derived.Test.YtidpfkehmokdfaaRows
import Derived.WalkKit
import Derived.ProofKit
import Derived.OpenShut
import Derived.ShutString
import Derived.ChangeOld
import Derived.Below
namespace Go.Proofs.Ytidpfkehmokdfaa.timerAll
open Go Go.ChangeShapes Go.WideShapes Go.ChangeAt Go.RowKit
open Go.ChangeMaps (open_string shut_string)

theorem own : ownKnob Try.prog.godebug = none := by kernel_rfl
theorem laidOut : laidOutB Try.prog = true := by kernel_rfl

open Go.Proofs Go.RowKit Go.Maps Go.Sort Go.Shelf
set_option maxRecDepth 40000 in
theorem open_arg1 {H : Type} {enc : TypeId × Value → H} {a : Option Addr} {len cap : Nat} {d : DataW H} {p : List MemPlace} (W : World) (_base : Nat)
    (h : DataW.Trod enc Try.prog W 0 (fun _ => true) true 32 (.slice a len cap) d p) : ∃ z, IsOps3 W a len cap z := open_ops3 h
/-- The timer at p, m holds those of M; f: for how long each was silent. -/
def TP (wr : World) (p m b : Nat) (most : Int) (M : Int → Prop) (f : Int → Int) : Prop := ∃ ks, TimA wr p m b most ks f ∧ ∀ y, y ∈ ks ↔ M y
/-- The law's own two rows. -/
structure RW (w wr : World) (p m : Nat) (K A : List Int) (vk va : Value) : Prop where
  rk : RowP 3 w.heap.size wr vk K
  ra : RowP 3 w.heap.size wr va A
  pk : ∀ g, vk.ownBlock = some g → g ≠ p ∧ g ≠ m
  pa : ∀ g, va.ownBlock = some g → g ≠ p ∧ g ≠ m ∧ vk.ownBlock ≠ some g
  lo : w.heap.size ≤ p ∧ w.heap.size ≤ m
  kp : Keep NoF w wr
structure Sta (w wr : World) (p m b : Nat) (most : Int) (K A : List Int) (vk va : Value) : Prop where
  t : ∃ f, TP wr p m b most (· ∈ K) f ∧ A = K.map f
  st : K.Pairwise (· < ·)
  rg : ∀ y ∈ K, -11 ≤ y ∧ y ≤ 11
  rw_ : RW w wr p m K A vk va
theorem TP.keep {F : Nat → Prop} {wr wc : World} {p m b : Nat} {most : Int} {M : Int → Prop} {f : Int → Int} (h : TP wr p m b most M f) (hk : Keep F wr wc) (h1 : ¬ F p) (h2 : ¬ F m) : TP wc p m b most M f := by
  obtain ⟨ks, h3, h4⟩ := h
  exact ⟨ks, h3.keep hk h1 h2, h4⟩
theorem TP.lt {wr : World} {p m b : Nat} {most : Int} {M : Int → Prop} {f : Int → Int} (h : TP wr p m b most M f) : p < wr.heap.size ∧ m < wr.heap.size ∧ p ≠ m := by
  obtain ⟨ks, h3, h4⟩ := h
  exact ⟨h3.lt.1, h3.lt.2, h3.ne⟩
theorem TP.mono {wr : World} {p m b b' : Nat} {most : Int} {M : Int → Prop} {f : Int → Int} (h : TP wr p m b most M f) (hb : b ≤ b') : TP wr p m b' most M f := by
  obtain ⟨ks, h3, h4⟩ := h
  exact ⟨ks, h3.mono hb, h4⟩
theorem TP.iff {wr : World} {p m b : Nat} {most : Int} {M M' : Int → Prop} {f : Int → Int} (h : TP wr p m b most M f) (hm : ∀ y, M y ↔ M' y) : TP wr p m b most M' f := by
  obtain ⟨ks, h3, h4⟩ := h
  exact ⟨ks, h3, fun y => (h4 y).trans (hm y)⟩
theorem TP.rng {wr : World} {p m b : Nat} {most : Int} {M : Int → Prop} {f : Int → Int} (h : TP wr p m b most M f) : ∀ y, M y → 0 ≤ f y ∧ f y ≤ b := by
  obtain ⟨ks, h3, h4⟩ := h
  exact fun y hy => h3.rng y ((h4 y).2 hy)
theorem TP.srt {wr : World} {p m b : Nat} {most : Int} {K : List Int} {f : Int → Int} {ks : List Int} (_h3 : TimA wr p m b most ks f) (h4 : ∀ y, y ∈ ks ↔ y ∈ K) (hs : K.Pairwise (· < ·)) : srtA ks = K :=
  rise_uniq (srt_rise ks) hs (fun x => by rw [mem_srtA, h4])
theorem RW.keep {w wr wc : World} {p m : Nat} {K A : List Int} {vk va : Value} (h : RW w wr p m K A vk va) (hk : Keep (fun k => k = m) wr wc) : RW w wc p m K A vk va :=
  ⟨h.rk.keep hk (fun g hg e => (h.pk g hg).2 e), h.ra.keep hk (fun g hg e => (h.pa g hg).2.1 e), h.pk, h.pa, h.lo, h.kp.trans hk (fun _ _ f => f) (fun k hk e => by have := h.lo; omega)⟩
theorem RW.keepN {w wr wc : World} {p m : Nat} {K A : List Int} {vk va : Value} (h : RW w wr p m K A vk va) (hk : Keep NoF wr wc) : RW w wc p m K A vk va := h.keep (hk.mono (fun _ _ f => f.elim))
theorem RW.setK {w wr wc : World} {p m : Nat} {K K' A : List Int} {vk vk' va : Value} (h : RW w wr p m K A vk va) (hk : Keep NoF wr wc) (hr : RowP 3 wr.heap.size wc vk' K') (hp : p < wr.heap.size ∧ m < wr.heap.size) : RW w wc p m K' A vk' va :=
  ⟨hr.less h.kp.size, h.ra.keep hk (fun _ _ f => f), fun g hg => by have := hr.lo g hg; omega, fun g hg => ⟨(h.pa g hg).1, (h.pa g hg).2.1, fun e => by have := hr.lo g e; have := h.ra.lt g hg; omega⟩, h.lo, h.kp.trans' hk⟩
theorem RW.setA {w wr wc : World} {p m : Nat} {K A A' : List Int} {vk va va' : Value} (h : RW w wr p m K A vk va) (hk : Keep NoF wr wc) (hr : RowP 3 wr.heap.size wc va' A') (hp : p < wr.heap.size ∧ m < wr.heap.size) : RW w wc p m K A' vk va' :=
  ⟨h.rk.keep hk (fun _ _ f => f), hr.less h.kp.size, h.pk, fun g hg => ⟨by have := hr.lo g hg; omega, by have := hr.lo g hg; omega, fun e => by have := hr.lo g hg; have := h.rk.lt g e; omega⟩, h.lo, h.kp.trans' hk⟩
/-- What a store into the ages' row makes. -/
def SetP (w wr : World) (p m : Nat) (K A : List Int) (vk : Value) (ao : Option Addr) (n cp k : Nat) (g : Nat) (x : Int) : Prop :=
  ao = some ⟨g, 0, none⟩ ∧ wr.frozen? ⟨g, k, none⟩ = false ∧ RW w (wr.setCell ⟨g, k, none⟩ (.int .i64 x)) p m K (A.set k x) vk (.slice ao n cp) ∧ Keep (fun j => j = g) wr (wr.setCell ⟨g, k, none⟩ (.int .i64 x)) ∧ g ≠ p ∧ g ≠ m
theorem RW.store {w wr : World} {p m : Nat} {K A : List Int} {vk : Value} {ao : Option Addr} {n cp : Nat} (h : RW w wr p m K A vk (.slice ao n cp)) (hn : A.length = n) (k : Nat) (hk : k < n) : ∃ (g : Nat) (hl : k < A.length), wr.cell? ⟨g, k, none⟩ = some (.int .i64 A[k]) ∧ ∀ x, SetP w wr p m K A vk ao n cp k g x := by
  obtain ⟨ao', cp', e, hr, hf⟩ := h.ra
  injection e with e1 e2 e3
  subst e1 e3
  have hl : k < A.length := by omega
  rw [hn] at hr
  obtain ⟨g, rfl, hc, hz, _, _⟩ := row_set hr hn k hl 0
  refine ⟨g, hl, hc, fun x => ?_⟩
  obtain ⟨g', e4, _, _, hs, hkp⟩ := row_set hr hn k hl x
  injection e4 with e4
  injection e4 with e4
  subst e4
  have hb : (Value.slice (some ⟨g, 0, none⟩) n cp).ownBlock = some g := rfl
  have hpa := h.pa g hb
  refine ⟨rfl, hz, ⟨h.rk.keep hkp (fun j hj e => hpa.2.2 (e ▸ hj)), ⟨some ⟨g, 0, none⟩, cp, by rw [List.length_set, hn], by rw [List.length_set, hn]; exact hs, hf⟩, h.pk, h.pa, h.lo, h.kp.trans hkp (fun _ _ f => f) (fun j hj e => by have := hf g hb; omega)⟩, hkp, hpa.1, hpa.2.1⟩
theorem sta_len {w wr : World} {p m b : Nat} {most : Int} {K A : List Int} {vk va : Value} (h : Sta w wr p m b most K A vk va) : A.length = K.length := by
  obtain ⟨⟨f, _, rfl⟩, _⟩ := h
  simp
theorem wf_in {x : Int} (h : -1000000 ≤ x ∧ x ≤ 1000000) : (Lit.int .i64 x).wf = true := WalkArith.wf_i64 (by omega)
theorem tp_heard {wr : World} {p m b : Nat} {most : Int} {M : Int → Prop} [DecidablePred M] {f : Int → Int} (h : TP wr p m b most M f) (x : Int) (hx : -1000000 ≤ x ∧ x ≤ 1000000) (hb : b ≤ 1000000) :
    Calls Try.prog 20 #[.pointer (some ⟨p, 0, none⟩), .int .i64 x] wr fun e w' => e = .returned (.bool (!decide (M x))) ∧ TP w' p m (b + 1) most (fun y => y = x ∨ M y) (fun z => if z = x then 0 else f z) ∧ Keep (fun k => k = m) wr w' := by
  obtain ⟨ks, h3, h4⟩ := h
  refine (heardA_any p m b most ks f x (wf_in hx) wr h3 hb).mono ?_
  rintro e w' ⟨rfl, h5, h6⟩
  exact ⟨by rw [decide_eq_decide.2 (h4 x)], ⟨_, h5, fun y => by rw [List.mem_cons, h4]⟩, h6⟩
theorem tp_gone {wr : World} {p m b : Nat} {most : Int} {M : Int → Prop} [DecidablePred M] {f : Int → Int} (h : TP wr p m b most M f) (x : Int) (hx : -1000000 ≤ x ∧ x ≤ 1000000) :
    Calls Try.prog 21 #[.pointer (some ⟨p, 0, none⟩), .int .i64 x] wr fun e w' => e = .returned (.bool (decide (M x))) ∧ TP w' p m b most (fun y => M y ∧ y ≠ x) f ∧ Keep (fun k => k = m) wr w' := by
  obtain ⟨ks, h3, h4⟩ := h
  refine (goneA_any p m b most ks f x (wf_in hx) wr h3).mono ?_
  rintro e w' ⟨rfl, h5, h6⟩
  exact ⟨by rw [decide_eq_decide.2 (h4 x)], ⟨_, h5, fun y => by rw [List.mem_filter, h4]; simp⟩, h6⟩
def lateK (most : Int) (K : List Int) (f : Int → Int) : List Int := K.filter fun x => decide (most ≤ f x + 1)
theorem tp_tick {wr : World} {p m b : Nat} {most : Int} {K : List Int} {f : Int → Int} (h : TP wr p m b most (· ∈ K) f) (hs : K.Pairwise (· < ·)) (hb : b + K.length ≤ 100000) :
    Calls Try.prog 22 #[.pointer (some ⟨p, 0, none⟩)] wr fun e w' => ∃ v, e = .returned v ∧ RowP 3 wr.heap.size w' v (lateK most K f) ∧ TP w' p m (b + K.length) most (· ∈ K) (fun z => f z + 1) ∧ Keep (fun k => k = m) wr w' := by
  obtain ⟨ks, h3, h4⟩ := h
  have he := TP.srt h3 h4 hs
  refine (tickA_any p m b most ks f wr h3 (by rw [he]; exact hb)).mono ?_
  rintro e w' ⟨v, rfl, h5, h6, h7, h8⟩
  have hl : lateA most ks f = lateK most K f := by unfold lateA lateK; rw [he]
  rw [hl] at h5
  rw [he] at h7
  obtain ⟨ao, cp, rfl⟩ := row_slice h5
  exact ⟨_, rfl, ⟨ao, cp, rfl, by rw [flat1]; exact h5, h6⟩, ⟨ks, h7, h4⟩, h8⟩
theorem tp_all {wr : World} {p m b : Nat} {most : Int} {K : List Int} {f : Int → Int} (h : TP wr p m b most (· ∈ K) f) (hs : K.Pairwise (· < ·)) (hb : b ≤ 1000000) :
    Calls Try.prog 23 #[.pointer (some ⟨p, 0, none⟩)] wr fun e w' => ∃ v, e = .returned v ∧ RowP 3 wr.heap.size w' v K ∧ Keep NoF wr w' := by
  obtain ⟨ks, h3, h4⟩ := h
  have he := TP.srt h3 h4 hs
  refine (allA_any p m b most ks f wr h3 hb).mono ?_
  rintro e w' ⟨v, rfl, h5, _, h7⟩
  rw [he] at h5
  obtain ⟨ao, cp, rfl⟩ := row_slice h5
  exact ⟨_, rfl, ⟨ao, cp, rfl, by rw [flat1]; exact row_base h5 (Nat.zero_le _), row_fresh h5⟩, h7⟩
theorem tp_age {wr : World} {p m b : Nat} {most : Int} {M : Int → Prop} [DecidablePred M] {f : Int → Int} (h : TP wr p m b most M f) (x : Int) (hx : -1000000 ≤ x ∧ x ≤ 1000000) :
    Calls Try.prog 24 #[.pointer (some ⟨p, 0, none⟩), .int .i64 x] wr fun e w' => e = .returned (.int .i64 (if M x then f x else -1)) ∧ w' = wr := by
  obtain ⟨ks, h3, h4⟩ := h
  refine (ageA_any p m b most ks f x (wf_in hx) wr h3).mono ?_
  rintro e w' ⟨rfl, rfl⟩
  refine ⟨?_, rfl⟩
  unfold ageA
  by_cases hm : M x
  · rw [if_pos hm, if_pos ((h4 x).2 hm)]
  · rw [if_neg hm, if_neg (fun e => hm ((h4 x).1 e))]
theorem tp_has {wr : World} {p m b : Nat} {most : Int} {M : Int → Prop} [DecidablePred M] {f : Int → Int} (h : TP wr p m b most M f) (x : Int) (hx : -1000000 ≤ x ∧ x ≤ 1000000) :
    Calls Try.prog 25 #[.pointer (some ⟨p, 0, none⟩), .int .i64 x] wr fun e w' => e = .returned (.bool (decide (M x))) ∧ w' = wr := by
  obtain ⟨ks, h3, h4⟩ := h
  refine (hasA_any p m b most ks f x (wf_in hx) wr h3).mono ?_
  rintro e w' ⟨rfl, rfl⟩
  exact ⟨by rw [decide_eq_decide.2 (h4 x)], rfl⟩
theorem insAt_set {l : List Int} {k : Nat} {v u : Int} (h : k ≤ l.length) : (insAt l k v).set k u = insAt l k u := by
  unfold insAt
  rw [List.set_append_right _ _ (by rw [List.length_take]; omega)]
  simp [Nat.min_eq_left h]
/-- The law's look through the ages at a tick, as far as j. -/
def midL (R : List Int) (f : Int → Int) (j : Nat) : List Int := (R.take j).map (fun z => f z + 1) ++ (R.drop j).map f
theorem midL_length {R : List Int} {f : Int → Int} {j : Nat} : (midL R f j).length = R.length := by simp [midL]; omega
theorem midL_at {R : List Int} {f : Int → Int} {j : Nat} (hj : j < R.length) : (midL R f j)[j]'(by rw [midL_length]; exact hj) = f R[j] := by
  simp [midL, Nat.min_eq_left (Nat.le_of_lt hj)]
theorem midL_set {R : List Int} {f : Int → Int} {j : Nat} (hj : j < R.length) : (midL R f j).set j (f R[j] + 1) = midL R f (j + 1) := by
  unfold midL
  rw [List.take_succ_eq_append_getElem hj, List.drop_eq_getElem_cons hj, List.set_append_right _ _ (by simp; omega)]
  simp only [List.length_map, List.length_take, Nat.min_eq_left (Nat.le_of_lt hj), Nat.sub_self, List.map_cons, List.set_cons_zero, List.map_append, List.map_nil, List.append_assoc, List.cons_append, List.nil_append]
def T3 (w w1 wq : World) (p m b : Nat) (most : Int) (K : List Int) (f : Int → Int) (vk va lv : Value) (LL : List Int) (j : Nat) : Prop :=
  RW w wq p m K (midL K f j) vk va ∧ TP wq p m b most (· ∈ K) (fun z => f z + 1) ∧ RowP 3 w1.heap.size wq lv LL ∧ ∀ g, va.ownBlock = some g → g < w1.heap.size
theorem T3.keep {w w1 wq wc : World} {p m b : Nat} {most : Int} {K : List Int} {f : Int → Int} {vk va lv : Value} {LL : List Int} {j : Nat} (h : T3 w w1 wq p m b most K f vk va lv LL j) (hk : Keep NoF wq wc) : T3 w w1 wc p m b most K f vk va lv LL j :=
  ⟨h.1.keepN hk, h.2.1.keep hk (fun f => f) (fun f => f), h.2.2.1.keep hk (fun _ _ f => f), h.2.2.2⟩
theorem t3_key {w w1 wq : World} {p m b : Nat} {most : Int} {K : List Int} {f : Int → Int} {ao : Option Addr} {n cp : Nat} {va lv : Value} {LL : List Int} {j : Nat} (h : T3 w w1 wq p m b most K f (.slice ao n cp) va lv LL j) (hn : K.length = n) (i : Nat) (hi : i < n) : ∃ g, ao = some ⟨g, 0, none⟩ ∧ wq.cell? ⟨g, i, none⟩ = some (.int .i64 (K[i]'(by omega))) := by
  obtain ⟨ao', cp', e, hr, _⟩ := h.1.rk
  injection e with e1 e2 e3
  subst e1 e3
  rw [hn] at hr
  exact row_at hr hn i (by omega)
theorem t3_late {w w1 wq : World} {p m b : Nat} {most : Int} {K : List Int} {f : Int → Int} {ao : Option Addr} {n cp : Nat} {vk va : Value} {LL : List Int} {j : Nat} (h : T3 w w1 wq p m b most K f vk va (.slice ao n cp) LL j) (hn : LL.length = n) (i : Nat) (hi : i < n) : ∃ g, ao = some ⟨g, 0, none⟩ ∧ wq.cell? ⟨g, i, none⟩ = some (.int .i64 (LL[i]'(by omega))) := by
  obtain ⟨ao', cp', e, hr, _⟩ := h.2.2.1
  injection e with e1 e2 e3
  subst e1 e3
  rw [hn] at hr
  exact row_at hr hn i (by omega)
theorem t3_step {w w1 wq : World} {p m b : Nat} {most : Int} {K : List Int} {f : Int → Int} {bo : Option Addr} {n cq : Nat} {vk lv : Value} {LL : List Int} {j0 : Nat} (h : T3 w w1 wq p m b most K f vk (.slice bo n cq) lv LL j0) (hn : K.length = n) (j : Nat) (hj : j < n) (e : j0 = j := by rfl) :
    ∃ g, bo = some ⟨g, 0, none⟩ ∧ wq.cell? ⟨g, j, none⟩ = some (.int .i64 (f (K[j]'(by omega)))) ∧ wq.frozen? ⟨g, j, none⟩ = false ∧
      (T3 w w1 (wq.setCell ⟨g, j, none⟩ (.int .i64 (f (K[j]'(by omega)) + 1))) p m b most K f vk (.slice (some ⟨g, 0, none⟩) n cq) lv LL (j + 1) ∧ (wq.setCell ⟨g, j, none⟩ (.int .i64 (f (K[j]'(by omega)) + 1))).cell? ⟨g, j, none⟩ = some (.int .i64 (f (K[j]'(by omega)) + 1))) := by
  subst e
  have hjK : j0 < K.length := by omega
  have hnm : (midL K f j0).length = n := by rw [midL_length, hn]
  obtain ⟨g, hl, hc, hset⟩ := h.1.store hnm j0 hj
  obtain ⟨e1, e2, e3, e4, e5, e6⟩ := hset (f K[j0] + 1)
  subst e1
  rw [midL_at hjK] at hc
  rw [midL_set hjK] at e3
  have hg := h.2.2.2 g rfl
  obtain ⟨co, cr, e7, hra, _⟩ := e3.ra
  injection e7 with e8 e9 e10
  subst e8 e10
  have hrow : (midL K f (j0 + 1)).length = n := by rw [midL_length, hn]
  rw [hrow] at hra
  obtain ⟨g', e11, hc2⟩ := row_at hra hrow j0 (by omega)
  injection e11 with e11
  injection e11 with e11
  subst e11
  have hv : (midL K f (j0 + 1))[j0]'(by omega) = f K[j0] + 1 := by
    have h8 : (midL K f (j0 + 1))[j0]? = some (f K[j0] + 1) := by rw [← midL_set hjK, List.getElem?_set_self (by rw [midL_length]; exact hjK)]
    rw [List.getElem?_eq_getElem (by omega)] at h8
    exact Option.some.inj h8
  rw [hv] at hc2
  exact ⟨g, rfl, hc, e2, ⟨e3, h.2.1.keep e4 (fun e => e5 e.symm) (fun e => e6 e.symm), h.2.2.1.keep e4 (fun k hk e => by have := h.2.2.1.lo k hk; omega), h.2.2.2⟩, hc2⟩
theorem t3_zero {w w1 wq : World} {p m b : Nat} {most : Int} {K A : List Int} {f : Int → Int} {vk va lv : Value} {LL : List Int} (hA : A = K.map f) (h1 : RW w wq p m K A vk va) (h2 : TP wq p m b most (· ∈ K) (fun z => f z + 1)) (h3 : RowP 3 w1.heap.size wq lv LL) (h4 : ∀ g, va.ownBlock = some g → g < w1.heap.size) : T3 w w1 wq p m b most K f vk va lv LL 0 := by
  refine ⟨?_, h2, h3, h4⟩
  rw [hA] at h1
  simpa [midL] using h1
theorem t3_end {w w1 wq : World} {p m b : Nat} {most : Int} {K : List Int} {f : Int → Int} {vk va lv : Value} {LL : List Int} {n : Nat} (h : T3 w w1 wq p m b most K f vk va lv LL n) (hn : K.length = n) : RW w wq p m K (K.map fun z => f z + 1) vk va := by
  subst hn
  have := h.1
  simpa [midL] using this
/-- Behind a step. -/
def Nx (w : World) (p m i : Nat) (most : Int) (wr : World) (vk va : Value) : Prop := ∃ K A, K.length ≤ i ∧ Sta w wr p m (61 * i) most K A vk va
theorem wp_named {P : Program} {c : Code} {Q : Exit → Act → World → Prop} {a : Act} {wq W : World} (hW : Keep NoF wq W) (h : ∀ W', Keep NoF wq W' → Code.wp P c Q a W') : Code.wp P c Q a W := h W hW
theorem wp_phi {P : Program} {c : Code} {Q : Exit → Act → World → Prop} {a : Act} {φ : World → Prop} {W : World} (hW : φ W) (h : ∀ W', φ W' → Code.wp P c Q a W') : Code.wp P c Q a W := h W hW
set_option maxHeartbeats 16000000 in
set_option maxRecDepth 8000 in
theorem walk (w : World) (most : Int) (hmost : (Lit.int .i64 most).wf = true) (a1 : Option Addr) (len1 cap1 : Nat) (z1 : List Op3) (h1 : IsOps3 w a1 len1 cap1 z1) :
    Calls Try.prog 4 #[.int .i64 most, .slice a1 len1 cap1] w fun e w' => e = .returned (.bool true) ∧ Keep NoF w w' := by
  obtain ⟨hl1, hok, s1⟩ := h1
  have c1 := s1.1; have c1m := s1.2.1
  rw [hl1] at c1
  unfold maxLen at c1m
  have bm := bounds_i64 hmost
  have S1 := Lib.hid s1; have HL1 := Lib.hid hl1; have HOK := Lib.hid hok
  clear s1 hl1 hok hmost
  go_enter Try.func4, Try.ntmps4
  go_wp2_with fail
  refine (begun6_any w).mono ?_
  rintro e w1 ⟨rfl, hk⟩
  have K1 := Lib.hid hk; clear hk
  go_wp2_with fail
  refine (newTimA_any most w1).mono ?_
  rintro e w2 ⟨p, m, rfl, hT, hk, hp, hm⟩
  have hST : Sta w w2 p m (61 * 0) most [] [] (.slice none 0 0) (.slice none 0 0) := ⟨⟨_, ⟨_, hT, fun y => Iff.rfl⟩, rfl⟩, List.Pairwise.nil, by simp, ⟨RowP.nil, RowP.nil, nofun, nofun, by have := K1.out.size; omega, K1.out.trans' hk⟩⟩
  have HST := Lib.hid hST
  clear hT hk hp hm hST
  go_wp2_with fail
  go_loopw [7, 8, 9] (fun vk va iv wr => ∃ i : Nat, i ≤ len1 ∧ i ≤ 60 ∧ iv = .int .i64 i ∧ Nx w p m i most wr vk va) (fun _ _ iv _ => len1 - (intOf iv).toNat)
  case atStart => exact ⟨0, Nat.zero_le _, Nat.zero_le _, rfl, [], [], Nat.le_refl _, HST.out⟩
  case round =>
    obtain ⟨i, hi, hi60, rfl, K, A, hKi, hS⟩ := hrel
    have HS := Lib.hid hS
    obtain ⟨n, hn⟩ : ∃ n, K.length = n := ⟨_, rfl⟩
    have hnA : A.length = n := (sta_len hS).trans hn
    obtain ⟨ao, cp, rfl, hcp, hcpm, hrk⟩ := hS.rw_.rk.slice hn
    obtain ⟨bo, cq, rfl, hcq, hcqm, hra⟩ := hS.rw_.ra.slice hnA
    rw [hn] at hKi
    have HN := Lib.hid hn; have HNA := Lib.hid hnA; have HRK := Lib.hid hrk; have HRA := Lib.hid hra
    clear hS hn hnA hrk hra
    by_cases hlt : i < len1 ∧ i < 60
    · obtain ⟨hlt, hlt60⟩ := hlt
      have hlt2 : (i : Int) < len1 := by omega
      have hlt3 : (i : Int) < 60 := by omega
      have hd2 : decide ((i : Int) < len1) = true := by simp [hlt2]
      have hd3 : decide ((i : Int) < 60) = true := by simp [hlt3]
      have hil3 : decide (len1 ≤ i) = false := by simp; omega
      obtain ⟨g0, o0, rfl, b0, b1, b2⟩ := sl3 (S1.out.keep HS.out.rw_.kp (fun _ _ f => f)) i (by rw [HL1.out]; exact hlt)
      have hok := HOK.out _ (List.getElem_mem (by rw [HL1.out]; exact hlt : i < z1.length))
      generalize z1[i]'(by rw [HL1.out]; exact hlt) = O at b0 b1 b2 hok
      obtain ⟨kd, X, N⟩ := O
      dsimp only at b0 b1 b2
      obtain ⟨bk, bX, _⟩ := hok
      dsimp only at bk bX
      obtain ⟨x, hx⟩ : ∃ x, X.tmod 12 = x := ⟨_, rfl⟩
      have hxb : -11 ≤ x ∧ x ≤ 11 := by have := tmod_bounds X 12 (by omega); omega
      obtain ⟨hxl, hxu⟩ := hxb
      go_upto_region 10 with fail
      have B0 := Lib.hid b0
      clear b0 b1 b2 hd2 hd3 hil3 hx bX
      obtain ⟨W1, rfl⟩ : ∃ W, W = wr := ⟨_, rfl⟩
      go_wp2_with fail
      go_loopw [11] (fun kv wq => ∃ k : Nat, k ≤ n ∧ kv = .int .i64 k ∧ (∀ y ∈ K.take k, y < x) ∧ W1 = wq) (fun kv _ => n - (intOf kv).toNat)
      case atStart => exact ⟨0, Nat.zero_le _, rfl, by simp, rfl⟩
      case round =>
        obtain ⟨k, hkn, rfl, htk, rfl⟩ := hrel
        have HTK := Lib.hid htk
        clear htk
        go_upto_region 11 with fail
        go_cut [50] from 39 to 50 (fun v wx => v = .bool (cL K x k) ∧ W1 = wx)
        case first =>
          by_cases hlt : k < n
          · have hlt2 : (k : Int) < n := by omega
            have hil3 : decide (n ≤ k) = false := by simp; omega
            obtain ⟨g1, rfl, d1⟩ := row_at HRK.out HN.out k (by rw [HN.out]; exact hlt)
            have hcl := cL_in (x := x) (by rw [HN.out]; exact hlt : k < K.length)
            generalize K[k]'(by rw [HN.out]; exact hlt) = y at d1 hcl
            by_cases hyx : y < x
            · have hdy : decide (y < x) = true := decide_eq_true hyx
              have HCL : Hid (cL K x k = true) := Lib.hid (by rw [hcl, hdy])
              clear hcl
              go_wp2_with fail
              go_meet
              exact ⟨by rw [HCL.out], rfl⟩
            · have hdy : decide (y < x) = false := decide_eq_false hyx
              have HCL : Hid (cL K x k = false) := Lib.hid (by rw [hcl, hdy])
              clear hcl
              go_wp2_with fail
              go_meet
              exact ⟨by rw [HCL.out], rfl⟩
          · have hlt2 : ¬ (k : Int) < n := by omega
            have hlt3 : decide (k < n) = false := by simp [hlt]
            have HCL : Hid (cL K x k = false) := Lib.hid (cL_out (by rw [HN.out]; omega))
            go_wp2_with fail
            go_meet
            exact ⟨by rw [HCL.out], rfl⟩
        case rest =>
          obtain ⟨rfl, rfl⟩ := hcut
          obtain ⟨bl, hbl⟩ : ∃ b, cL K x k = b := ⟨_, rfl⟩
          rw [hbl]
          cases bl with
          | true =>
            have hk1 := cL_lt hbl
            rw [HN.out] at hk1
            have HTK2 := Lib.hid (take_less HTK.out hbl)
            clear hbl
            go_wp2_with fail
            go_roundw
            case rel => exact ⟨k + 1, by omega, by go_num, HTK2.out, trivial⟩
            case measure => simp [intOf]; omega
          | false =>
            have HBL := Lib.hid hbl
            have HIN : Hid (x ∈ K ↔ ∃ hk : k < K.length, K[k] = x) := Lib.hid (in_at HS.out.st HTK.out hbl)
            clear hbl
            obtain ⟨bin, hbin⟩ : ∃ b, decide (x ∈ K) = b := ⟨_, rfl⟩
            have HBIN := Lib.hid hbin
            clear hbin
            go_upto_region 13 with fail
            go_cut [12] from 53 to 64 (fun v wx => v = .bool bin ∧ W1 = wx)
            case first =>
              by_cases hlt : k < n
              · have hlt2 : (k : Int) < n := by omega
                have hil3 : decide (n ≤ k) = false := by simp; omega
                obtain ⟨g1, rfl, d1⟩ := row_at HRK.out HN.out k (by rw [HN.out]; exact hlt)
                have hin := HIN.out
                have hkl : k < K.length := by rw [HN.out]; exact hlt
                obtain ⟨y, hy⟩ : ∃ y, K[k] = y := ⟨_, rfl⟩
                rw [hy] at d1
                by_cases hyx : y = x
                · have hb : bin = true := by rw [← HBIN.out]; exact decide_eq_true (hin.2 ⟨hkl, hy.trans hyx⟩)
                  subst hyx hb
                  clear hin hy
                  go_wp2_with fail
                  go_meet
                  exact ⟨rfl, rfl⟩
                · have hb : bin = false := by rw [← HBIN.out]; exact decide_eq_false (fun e => by obtain ⟨_, e2⟩ := hin.1 e; exact hyx (hy.symm.trans e2))
                  have hne : (y == x) = false := by simp [hyx]
                  subst hb
                  clear hin hy
                  go_wp2_with fail
                  go_meet
                  exact ⟨rfl, rfl⟩
              · have hlt2 : ¬ (k : Int) < n := by omega
                have hlt3 : decide (k < n) = false := by simp [hlt]
                have hb : bin = false := by
                  rw [← HBIN.out]; refine decide_eq_false (fun e => ?_)
                  obtain ⟨hk, _⟩ := HIN.out.1 e
                  rw [HN.out] at hk; exact hlt hk
                subst hb
                go_wp2_with fail
                go_meet
                exact ⟨rfl, rfl⟩
            case rest =>
              obtain ⟨rfl, rfl⟩ := hcut
              have b0 := B0.out
              have hil3 : decide (len1 ≤ i) = false := by simp; omega
              go_upto_block 4 with fail
              clear b0 hil3
              obtain ⟨⟨f, hTP, hAf⟩, hst, hrg, hrw⟩ := HS.out
              have HTP := Lib.hid hTP; have HAF := Lib.hid hAf; have HSTR := Lib.hid hst; have HRG := Lib.hid hrg; have HRW := Lib.hid hrw
              have hlt3 := hTP.lt
              have HLT := Lib.hid hlt3
              have hi59 : i ≤ 59 := by omega
              have hcp0 : k ≤ cp := by omega
              have hcq0 : k ≤ cq := by omega
              clear hTP hAf hst hrg hrw hlt3
              by_cases hk0 : kd = 0
              · subst hk0
                have hth := tp_heard HTP.out x (by omega) (by omega)
                have hbi := HBIN.out
                simp only [hbi] at hth
                have HTH := Lib.hid hth
                clear hth hbi
                cases bin
                · have hxK : x ∉ K := of_decide_eq_false HBIN.out
                  have HXK := Lib.hid hxK
                  clear hxK
                  go_wp2_with fail
                  refine HTH.out.mono ?_
                  rintro e w5 ⟨rfl, hT5, hk5⟩
                  have HT5 := Lib.hid hT5
                  have HRW5 := Lib.hid (HRW.out.keep hk5)
                  have HLT5 := Lib.hid hT5.lt
                  clear hT5 hk5
                  have HRK5 : Hid (w5.ownsRow 0 3 1 (.slice ao n cp) n (K.flatMap iC)) := Lib.hid (by obtain ⟨ao', cp', e, h1, _⟩ := HRW5.out.rk; injection e with e1 e2 e3; subst e1 e3; rw [HN.out] at h1; exact h1)
                  go_upto_region 31 with fail
                  go_cut [7] from 120 to 130 (fun v wx => RowP 3 w5.heap.size wx v (insAt K k x) ∧ Keep NoF w5 wx)
                  case first =>
                    have SRC1 : Hid (∀ W, Keep NoF w5 W → Src Try.prog 1 22 (.slice ao k cp) k ((K.take k).flatMap iC) W) := Lib.hid fun W hW => src_upto iC_len iC_one Try.underlying22 (row_keep HRK5.out hW (fun _ _ f => f)) HN.out k (by omega) cp
                    have SRC2 : Hid (∀ W, Keep NoF w5 W → Src Try.prog 1 22 (.slice (fromA ao k cp 1) (n - k) (cp - k)) (n - k) ((K.drop k).flatMap iC) W) := Lib.hid fun W hW => src_from iC_len iC_one Try.underlying22 (row_keep HRK5.out hW (fun _ _ f => f)) HN.out k (by omega) (cp - k)
                    have HHI := Lib.hid (fun W => run_upto (P := Try.prog) Try.underlying22 infoA ao n cp k (by omega) W)
                    have HLO := Lib.hid (fun W => run_from (P := Try.prog) Try.underlying22 infoA ao n cp k (by omega) W)
                    have K0 := Lib.hid ((Keep.refl NoF w5).drew)
                    refine wp_region_noPanic ?_
                    refine wp_region_held_drew (S := (fun _ : World => True)) (by kernel_rfl) (trivial) (fun hHeld => ?_)
                    refine wpAnyH_take (i := 0) (oi := ?oP0) (v := ?vP0) ?hiP0 (by kernel_rfl) (by kernel_rfl) (by kernel_rfl) (fun _ _ _ h => h) (Or.inl ⟨?wP0, ?yP0⟩) (by assumption) ?rP0
                    case hiP0 => (simp only [List.getElem?_toArray, List.getElem?_cons_zero]; try rfl)
                    case wP0 => rfl
                    case yP0 => (intro w hSw; (try dsimp only at hSw); go_simp; (try with_reducible rfl))
                    (try simp only [Act.put, List.setIfInBounds_toArray, List.set_cons_zero, List.set_cons_succ])
                    refine wpAnyH_take (i := 1) (oi := ?oP1) (v := ?vP1) ?hiP1 (by kernel_rfl) (by kernel_rfl) (by kernel_rfl) (fun _ _ _ h => h) (Or.inl ⟨?wP1, ?yP1⟩) (by assumption) ?rP1
                    case hiP1 => (simp only [List.getElem?_toArray, List.getElem?_cons_succ, List.getElem?_cons_zero]; try rfl)
                    case wP1 => rfl
                    case yP1 => (intro w hSw; (try dsimp only at hSw); go_simp; (try with_reducible rfl))
                    (try simp only [Act.put, List.setIfInBounds_toArray, List.set_cons_zero, List.set_cons_succ])
                    refine wpAnyH_take (i := 2) (oi := ?oP2) (v := .slice ao k cp) ?hiP2 (by kernel_rfl) (by kernel_rfl) (by kernel_rfl) (fun _ _ _ h => h) (Or.inl ⟨?wP2, ?yP2⟩) (by assumption) ?rP2
                    case hiP2 => (simp only [List.getElem?_toArray, List.getElem?_cons_succ, List.getElem?_cons_zero]; try rfl)
                    case wP2 => rfl
                    case yP2 => (intro w hSw; exact slice_yields rfl (HHI.out w))
                    (try simp only [Act.put, List.setIfInBounds_toArray, List.set_cons_zero, List.set_cons_succ])
                    refine wpAnyH_take (i := 4) (oi := ?oP4) (v := ?vP4) ?hiP4 (by kernel_rfl) (by kernel_rfl) (by kernel_rfl) (fun _ _ _ h => h) (Or.inl ⟨?wP4, ?yP4⟩) (by assumption) ?rP4
                    case hiP4 => (simp only [List.getElem?_toArray, List.getElem?_cons_succ, List.getElem?_cons_zero]; try rfl)
                    case wP4 => rfl
                    case yP4 => (intro w hSw; (try dsimp only at hSw); go_simp; (try with_reducible rfl))
                    (try simp only [Act.put, List.setIfInBounds_toArray, List.set_cons_zero, List.set_cons_succ])
                    refine wpAnyH_take (i := 7) (oi := ?oP7) (v := ?vP7) ?hiP7 (by kernel_rfl) (by kernel_rfl) (by kernel_rfl) (fun _ _ _ h => h) (Or.inl ⟨?wP7, ?yP7⟩) (by assumption) ?rP7
                    case hiP7 => (simp only [List.getElem?_toArray, List.getElem?_cons_succ, List.getElem?_cons_zero]; try rfl)
                    case wP7 => rfl
                    case yP7 => (intro w hSw; (try dsimp only at hSw); go_simp; (try with_reducible rfl))
                    (try simp only [Act.put, List.setIfInBounds_toArray, List.set_cons_zero, List.set_cons_succ])
                    refine wpAnyH_take (i := 8) (oi := ?oP8) (v := ?vP8) ?hiP8 (by kernel_rfl) (by kernel_rfl) (by kernel_rfl) (fun _ _ _ h => h) (Or.inl ⟨?wP8, ?yP8⟩) (by assumption) ?rP8
                    case hiP8 => (simp only [List.getElem?_toArray, List.getElem?_cons_succ, List.getElem?_cons_zero]; try rfl)
                    case wP8 => rfl
                    case yP8 => (intro w hSw; (try dsimp only at hSw); go_simp; (try with_reducible rfl))
                    (try simp only [Act.put, List.setIfInBounds_toArray, List.set_cons_zero, List.set_cons_succ])
                    refine wpAnyH_take (i := 9) (oi := ?oP9) (v := .slice (fromA ao k cp 1) (n - k) (cp - k)) ?hiP9 (by kernel_rfl) (by kernel_rfl) (by kernel_rfl) (fun _ _ _ h => h) (Or.inl ⟨?wP9, ?yP9⟩) (by assumption) ?rP9
                    case hiP9 => (simp only [List.getElem?_toArray, List.getElem?_cons_succ, List.getElem?_cons_zero]; try rfl)
                    case wP9 => rfl
                    case yP9 => (intro w hSw; exact slice_yields rfl (HLO.out w))
                    (try simp only [Act.put, List.setIfInBounds_toArray, List.set_cons_zero, List.set_cons_succ])
                    refine wpAnyH_ready (rs := [3, 5]) (by kernel_rfl) (by simp) ?_
                    refine (AllReadyH.cons (o := ?oP3) ?hiP3 (fun K hK => ?_) (AllReadyH.cons (o := ?oP5) ?hiP5 (fun K hK => ?_) AllReadyH.nil))
                    case hiP3 => (simp only [List.getElem?_toArray, List.getElem?_cons_succ, List.getElem?_cons_zero]; try rfl)
                    case hiP5 => (simp only [List.getElem?_toArray, List.getElem?_cons_succ, List.getElem?_cons_zero]; try rfl)
                    · refine step_app 22 22 3 (.int .i64 0) 1 8 Try.underlying22 infoA rfl (by decide) (by decide) rfl rfl rfl rfl (v := .slice none 0 0) (sv := (.slice ao k cp)) (World.ownsRow_nil _ _ _ _) (SRC1.out _ (K0.out)) (by omega) ?_
                      intro a1 c1 W1a hown1 hgr1 hfr1
                      simp only [Nat.zero_add, List.nil_append] at hown1 hgr1 hfr1 ⊢
                      have kA : Keep NoF w5 W1a := (K0.out).grown hgr1 (fun k _ e => by cases e)
                      have fr1 : ∀ b, (Value.slice a1 k c1).ownBlock = some b → w5.heap.size ≤ b := fun b hk => by
                        rcases hfr1 with f | f
                        · rw [f] at hk; cases hk
                        · rw [f] at hk; injection hk with hk; exact Nat.le_trans (K0.out).size (Nat.le_of_eq hk)
                      refine hK.out _ _ (trivial) (fun hHeld => ?_)
                      clear hK K
                      (try simp only [Act.put, List.setIfInBounds_toArray, List.set_cons_zero, List.set_cons_succ])
                      refine wpAnyH_ready (rs := [5]) (by kernel_rfl) (by simp) ?_
                      refine (AllReadyH.cons (o := ?oPa5) ?hiPa5 (fun K hK => ?_) AllReadyH.nil)
                      case hiPa5 => (simp only [List.getElem?_toArray, List.getElem?_cons_succ, List.getElem?_cons_zero]; try rfl)
                      go_simp
                      refine hK.out _ _ (trivial) (fun hHeld => ?_)
                      clear hK K
                      (try simp only [Act.put, List.setIfInBounds_toArray, List.set_cons_zero, List.set_cons_succ])
                      have kA2 := kA.alloc (.cells #[.int .i64 x] 3 (0, 0))
                      refine wpAnyH_ready (rs := [6]) (by kernel_rfl) (by simp) ?_
                      refine (AllReadyH.cons (o := ?oPa6) ?hiPa6 (fun K hK => ?_) AllReadyH.nil)
                      case hiPa6 => (simp only [List.getElem?_toArray, List.getElem?_cons_succ, List.getElem?_cons_zero]; try rfl)
                      refine step_app 22 22 3 (.int .i64 0) 1 8 Try.underlying22 infoA rfl (by decide) (by decide) rfl rfl rfl rfl (v := .slice a1 k c1) (sv := (.slice (some ⟨W1a.heap.size, 0, none⟩) 1 1)) (hown1.alloc _) (src_oneK (x := x) iC_one iC_len Try.underlying22 (heap_new W1a _) rfl 1) (by omega) ?_
                      intro a3 c3 W3 hown3 hgr3 hfr3
                      have kB : Keep NoF w5 W3 := (kA2).grown hgr3 (fun b hk e => by have := fr1 b e; omega)
                      have fr3 : ∀ b, (Value.slice a3 (k + 1) c3).ownBlock = some b → w5.heap.size ≤ b := fun b hk => by
                        rcases hfr3 with f | f
                        · rw [f] at hk; exact fr1 b hk
                        · rw [f] at hk; injection hk with hk; exact Nat.le_trans (kA2).size (Nat.le_of_eq hk)
                      refine hK.out _ _ (trivial) (fun hHeld => ?_)
                      clear hK K
                      (try simp only [Act.put, List.setIfInBounds_toArray, List.set_cons_zero, List.set_cons_succ])
                      refine wpAnyH_ready (rs := [10]) (by kernel_rfl) (by simp) ?_
                      refine (AllReadyH.cons (o := ?oPa10) ?hiPa10 (fun K hK => ?_) AllReadyH.nil)
                      case hiPa10 => (simp only [List.getElem?_toArray, List.getElem?_cons_succ, List.getElem?_cons_zero]; try rfl)
                      refine step_app 22 22 3 (.int .i64 0) 1 8 Try.underlying22 infoA rfl (by decide) (by decide) rfl rfl rfl rfl (v := .slice a3 (k + 1) c3) (sv := (.slice (fromA ao k cp 1) (n - k) (cp - k))) (hown3) (SRC2.out _ kB) (by omega) ?_
                      intro a4 c4 W4 hown4 hgr4 hfr4
                      have kC : Keep NoF w5 W4 := kB.grown hgr4 (fun b hk e => by have := fr3 b e; omega)
                      have fr4 : ∀ b, (Value.slice a4 (k + 1 + (n - k)) c4).ownBlock = some b → w5.heap.size ≤ b := fun b hk => by
                        rcases hfr4 with f | f
                        · rw [f] at hk; exact fr3 b hk
                        · rw [f] at hk; injection hk with hk; exact Nat.le_trans (kB).size (Nat.le_of_eq hk)
                      refine hK.out _ _ (trivial) (fun hHeld => ?_)
                      clear hK K
                      (try simp only [Act.put, List.setIfInBounds_toArray, List.set_cons_zero, List.set_cons_succ])
                      refine wpAnyH_take (i := 11) (oi := ?oPa11) (v := ?vPa11) ?hiPa11 (by kernel_rfl) (by kernel_rfl) (by kernel_rfl) (fun _ _ _ h => h) (Or.inl ⟨?wPa11, ?yPa11⟩) (by assumption) ?rPa11
                      case hiPa11 => (simp only [List.getElem?_toArray, List.getElem?_cons_succ, List.getElem?_cons_zero]; try rfl)
                      case wPa11 => rfl
                      case yPa11 => (intro w hSw; (try dsimp only at hSw); go_simp; (try with_reducible rfl))
                      (try simp only [Act.put, List.setIfInBounds_toArray, List.set_cons_zero, List.set_cons_succ])
                      refine wpAnyH_done (by kernel_rfl) ?_ _
                      refine NoPanic.normal ?_
                      have e1 : k + 1 + (n - k) = n + 1 := by omega
                      have e2 : (insAt K k x).length = n + 1 := by rw [insAt_length (by rw [HN.out]; exact hkn), HN.out]
                      rw [e1] at hown4 fr4 ⊢
                      (try go_wp2_with fail)
                      go_meet
                      exact ⟨⟨a4, c4, by rw [e2], by rw [e2]; unfold insAt; rw [List.flatMap_append, List.flatMap_cons]; simpa [iC] using hown4, fr4⟩, kC⟩
                    · go_simp
                      refine hK.out _ _ (trivial) (fun hHeld => ?_)
                      clear hK K
                      (try simp only [Act.put, List.setIfInBounds_toArray, List.set_cons_zero, List.set_cons_succ])
                      have k1 := K0.out.alloc (.cells #[.int .i64 x] 3 (0, 0))
                      refine wpAnyH_ready (rs := [3]) (by kernel_rfl) (by simp) ?_
                      refine (AllReadyH.cons (o := ?oPb3) ?hiPb3 (fun K hK => ?_) AllReadyH.nil)
                      case hiPb3 => (simp only [List.getElem?_toArray, List.getElem?_cons_succ, List.getElem?_cons_zero]; try rfl)
                      refine step_app 22 22 3 (.int .i64 0) 1 8 Try.underlying22 infoA rfl (by decide) (by decide) rfl rfl rfl rfl (v := .slice none 0 0) (sv := (.slice ao k cp)) (World.ownsRow_nil _ _ _ _) (SRC1.out _ (k1)) (by omega) ?_
                      intro a1 c1 W1b hown1 hgr1 hfr1
                      simp only [Nat.zero_add, List.nil_append] at hown1 hgr1 hfr1 ⊢
                      have kA : Keep NoF w5 W1b := (k1).grown hgr1 (fun k _ e => by cases e)
                      have fr1 : ∀ b, (Value.slice a1 k c1).ownBlock = some b → w5.heap.size ≤ b := fun b hk => by
                        rcases hfr1 with f | f
                        · rw [f] at hk; cases hk
                        · rw [f] at hk; injection hk with hk; exact Nat.le_trans (k1).size (Nat.le_of_eq hk)
                      have hpb : W1b.heap[w5.heap.size]? = some (.cells #[.int .i64 x] 3 (0, 0)) := (hgr1.block w5.heap.size (by simp) (by simp [Value.ownBlock])).trans (heap_new w5.drew _)
                      refine hK.out _ _ (trivial) (fun hHeld => ?_)
                      clear hK K
                      (try simp only [Act.put, List.setIfInBounds_toArray, List.set_cons_zero, List.set_cons_succ])
                      refine wpAnyH_ready (rs := [6]) (by kernel_rfl) (by simp) ?_
                      refine (AllReadyH.cons (o := ?oPb6) ?hiPb6 (fun K hK => ?_) AllReadyH.nil)
                      case hiPb6 => (simp only [List.getElem?_toArray, List.getElem?_cons_succ, List.getElem?_cons_zero]; try rfl)
                      refine step_app 22 22 3 (.int .i64 0) 1 8 Try.underlying22 infoA rfl (by decide) (by decide) rfl rfl rfl rfl (v := .slice a1 k c1) (sv := (.slice (some ⟨w5.heap.size, 0, none⟩) 1 1)) (hown1) (src_oneK (x := x) iC_one iC_len Try.underlying22 (hpb) rfl 1) (by omega) ?_
                      intro a3 c3 W3 hown3 hgr3 hfr3
                      have kB : Keep NoF w5 W3 := (kA).grown hgr3 (fun b hk e => by have := fr1 b e; omega)
                      have fr3 : ∀ b, (Value.slice a3 (k + 1) c3).ownBlock = some b → w5.heap.size ≤ b := fun b hk => by
                        rcases hfr3 with f | f
                        · rw [f] at hk; exact fr1 b hk
                        · rw [f] at hk; injection hk with hk; exact Nat.le_trans (kA).size (Nat.le_of_eq hk)
                      refine hK.out _ _ (trivial) (fun hHeld => ?_)
                      clear hK K
                      (try simp only [Act.put, List.setIfInBounds_toArray, List.set_cons_zero, List.set_cons_succ])
                      refine wpAnyH_ready (rs := [10]) (by kernel_rfl) (by simp) ?_
                      refine (AllReadyH.cons (o := ?oPb10) ?hiPb10 (fun K hK => ?_) AllReadyH.nil)
                      case hiPb10 => (simp only [List.getElem?_toArray, List.getElem?_cons_succ, List.getElem?_cons_zero]; try rfl)
                      refine step_app 22 22 3 (.int .i64 0) 1 8 Try.underlying22 infoA rfl (by decide) (by decide) rfl rfl rfl rfl (v := .slice a3 (k + 1) c3) (sv := (.slice (fromA ao k cp 1) (n - k) (cp - k))) (hown3) (SRC2.out _ kB) (by omega) ?_
                      intro a4 c4 W4 hown4 hgr4 hfr4
                      have kC : Keep NoF w5 W4 := kB.grown hgr4 (fun b hk e => by have := fr3 b e; omega)
                      have fr4 : ∀ b, (Value.slice a4 (k + 1 + (n - k)) c4).ownBlock = some b → w5.heap.size ≤ b := fun b hk => by
                        rcases hfr4 with f | f
                        · rw [f] at hk; exact fr3 b hk
                        · rw [f] at hk; injection hk with hk; exact Nat.le_trans (kB).size (Nat.le_of_eq hk)
                      refine hK.out _ _ (trivial) (fun hHeld => ?_)
                      clear hK K
                      (try simp only [Act.put, List.setIfInBounds_toArray, List.set_cons_zero, List.set_cons_succ])
                      refine wpAnyH_take (i := 11) (oi := ?oPb11) (v := ?vPb11) ?hiPb11 (by kernel_rfl) (by kernel_rfl) (by kernel_rfl) (fun _ _ _ h => h) (Or.inl ⟨?wPb11, ?yPb11⟩) (by assumption) ?rPb11
                      case hiPb11 => (simp only [List.getElem?_toArray, List.getElem?_cons_succ, List.getElem?_cons_zero]; try rfl)
                      case wPb11 => rfl
                      case yPb11 => (intro w hSw; (try dsimp only at hSw); go_simp; (try with_reducible rfl))
                      (try simp only [Act.put, List.setIfInBounds_toArray, List.set_cons_zero, List.set_cons_succ])
                      refine wpAnyH_done (by kernel_rfl) ?_ _
                      refine NoPanic.normal ?_
                      have e1 : k + 1 + (n - k) = n + 1 := by omega
                      have e2 : (insAt K k x).length = n + 1 := by rw [insAt_length (by rw [HN.out]; exact hkn), HN.out]
                      rw [e1] at hown4 fr4 ⊢
                      (try go_wp2_with fail)
                      go_meet
                      exact ⟨⟨a4, c4, by rw [e2], by rw [e2]; unfold insAt; rw [List.flatMap_append, List.flatMap_cons]; simpa [iC] using hown4, fr4⟩, kC⟩
                  case rest =>
                    obtain ⟨hr6, hk6⟩ := hcut
                    obtain ⟨w6, rfl⟩ : ∃ W, W = wc := ⟨_, rfl⟩
                    have HRW6 := Lib.hid (HRW5.out.setK hk6 hr6 ⟨HLT5.out.1, HLT5.out.2.1⟩)
                    have HT6 := Lib.hid (HT5.out.keep hk6 (fun f => f) (fun f => f))
                    have HLT6 := Lib.hid HT6.out.lt
                    clear hr6 hk6
                    have HRA6 : Hid (w6.ownsRow 0 3 1 (.slice bo n cq) n (A.flatMap iC)) := Lib.hid (by obtain ⟨ao', cp', e, h1, _⟩ := HRW6.out.ra; injection e with e1 e2 e3; subst e1 e3; rw [HNA.out] at h1; exact h1)
                    go_upto_region 32 with fail
                    go_cut [8] from 131 to 140 (fun v wx => RowP 3 w6.heap.size wx v (insAt A k 0) ∧ Keep NoF w6 wx)
                    case first =>
                      have SRC1 : Hid (∀ W, Keep NoF w6 W → Src Try.prog 1 22 (.slice bo k cq) k ((A.take k).flatMap iC) W) := Lib.hid fun W hW => src_upto iC_len iC_one Try.underlying22 (row_keep HRA6.out hW (fun _ _ f => f)) HNA.out k (by omega) cq
                      have SRC2 : Hid (∀ W, Keep NoF w6 W → Src Try.prog 1 22 (.slice (fromA bo k cq 1) (n - k) (cq - k)) (n - k) ((A.drop k).flatMap iC) W) := Lib.hid fun W hW => src_from iC_len iC_one Try.underlying22 (row_keep HRA6.out hW (fun _ _ f => f)) HNA.out k (by omega) (cq - k)
                      have HHI := Lib.hid (fun W => run_upto (P := Try.prog) Try.underlying22 infoA bo n cq k (by omega) W)
                      have HLO := Lib.hid (fun W => run_from (P := Try.prog) Try.underlying22 infoA bo n cq k (by omega) W)
                      have K0 := Lib.hid ((Keep.refl NoF w6).drew)
                      refine wp_region_noPanic ?_
                      refine wp_region_held_drew (S := (fun _ : World => True)) (by kernel_rfl) (trivial) (fun hHeld => ?_)
                      refine wpAnyH_take (i := 0) (oi := ?oQ0) (v := ?vQ0) ?hiQ0 (by kernel_rfl) (by kernel_rfl) (by kernel_rfl) (fun _ _ _ h => h) (Or.inl ⟨?wQ0, ?yQ0⟩) (by assumption) ?rQ0
                      case hiQ0 => (simp only [List.getElem?_toArray, List.getElem?_cons_zero]; try rfl)
                      case wQ0 => rfl
                      case yQ0 => (intro w hSw; (try dsimp only at hSw); go_simp; (try with_reducible rfl))
                      (try simp only [Act.put, List.setIfInBounds_toArray, List.set_cons_zero, List.set_cons_succ])
                      refine wpAnyH_take (i := 1) (oi := ?oQ1) (v := ?vQ1) ?hiQ1 (by kernel_rfl) (by kernel_rfl) (by kernel_rfl) (fun _ _ _ h => h) (Or.inl ⟨?wQ1, ?yQ1⟩) (by assumption) ?rQ1
                      case hiQ1 => (simp only [List.getElem?_toArray, List.getElem?_cons_succ, List.getElem?_cons_zero]; try rfl)
                      case wQ1 => rfl
                      case yQ1 => (intro w hSw; (try dsimp only at hSw); go_simp; (try with_reducible rfl))
                      (try simp only [Act.put, List.setIfInBounds_toArray, List.set_cons_zero, List.set_cons_succ])
                      refine wpAnyH_take (i := 2) (oi := ?oQ2) (v := .slice bo k cq) ?hiQ2 (by kernel_rfl) (by kernel_rfl) (by kernel_rfl) (fun _ _ _ h => h) (Or.inl ⟨?wQ2, ?yQ2⟩) (by assumption) ?rQ2
                      case hiQ2 => (simp only [List.getElem?_toArray, List.getElem?_cons_succ, List.getElem?_cons_zero]; try rfl)
                      case wQ2 => rfl
                      case yQ2 => (intro w hSw; exact slice_yields rfl (HHI.out w))
                      (try simp only [Act.put, List.setIfInBounds_toArray, List.set_cons_zero, List.set_cons_succ])
                      refine wpAnyH_take (i := 6) (oi := ?oQ6) (v := ?vQ6) ?hiQ6 (by kernel_rfl) (by kernel_rfl) (by kernel_rfl) (fun _ _ _ h => h) (Or.inl ⟨?wQ6, ?yQ6⟩) (by assumption) ?rQ6
                      case hiQ6 => (simp only [List.getElem?_toArray, List.getElem?_cons_succ, List.getElem?_cons_zero]; try rfl)
                      case wQ6 => rfl
                      case yQ6 => (intro w hSw; (try dsimp only at hSw); go_simp; (try with_reducible rfl))
                      (try simp only [Act.put, List.setIfInBounds_toArray, List.set_cons_zero, List.set_cons_succ])
                      refine wpAnyH_take (i := 7) (oi := ?oQ7) (v := ?vQ7) ?hiQ7 (by kernel_rfl) (by kernel_rfl) (by kernel_rfl) (fun _ _ _ h => h) (Or.inl ⟨?wQ7, ?yQ7⟩) (by assumption) ?rQ7
                      case hiQ7 => (simp only [List.getElem?_toArray, List.getElem?_cons_succ, List.getElem?_cons_zero]; try rfl)
                      case wQ7 => rfl
                      case yQ7 => (intro w hSw; (try dsimp only at hSw); go_simp; (try with_reducible rfl))
                      (try simp only [Act.put, List.setIfInBounds_toArray, List.set_cons_zero, List.set_cons_succ])
                      refine wpAnyH_take (i := 8) (oi := ?oQ8) (v := .slice (fromA bo k cq 1) (n - k) (cq - k)) ?hiQ8 (by kernel_rfl) (by kernel_rfl) (by kernel_rfl) (fun _ _ _ h => h) (Or.inl ⟨?wQ8, ?yQ8⟩) (by assumption) ?rQ8
                      case hiQ8 => (simp only [List.getElem?_toArray, List.getElem?_cons_succ, List.getElem?_cons_zero]; try rfl)
                      case wQ8 => rfl
                      case yQ8 => (intro w hSw; exact slice_yields rfl (HLO.out w))
                      (try simp only [Act.put, List.setIfInBounds_toArray, List.set_cons_zero, List.set_cons_succ])
                      refine wpAnyH_ready (rs := [3, 4]) (by kernel_rfl) (by simp) ?_
                      refine (AllReadyH.cons (o := ?oQ3) ?hiQ3 (fun K hK => ?_) (AllReadyH.cons (o := ?oQ4) ?hiQ4 (fun K hK => ?_) AllReadyH.nil))
                      case hiQ3 => (simp only [List.getElem?_toArray, List.getElem?_cons_succ, List.getElem?_cons_zero]; try rfl)
                      case hiQ4 => (simp only [List.getElem?_toArray, List.getElem?_cons_succ, List.getElem?_cons_zero]; try rfl)
                      · refine step_app 22 22 3 (.int .i64 0) 1 8 Try.underlying22 infoA rfl (by decide) (by decide) rfl rfl rfl rfl (v := .slice none 0 0) (sv := (.slice bo k cq)) (World.ownsRow_nil _ _ _ _) (SRC1.out _ (K0.out)) (by omega) ?_
                        intro a1 c1 W1a hown1 hgr1 hfr1
                        simp only [Nat.zero_add, List.nil_append] at hown1 hgr1 hfr1 ⊢
                        have kA : Keep NoF w6 W1a := (K0.out).grown hgr1 (fun k _ e => by cases e)
                        have fr1 : ∀ b, (Value.slice a1 k c1).ownBlock = some b → w6.heap.size ≤ b := fun b hk => by
                          rcases hfr1 with f | f
                          · rw [f] at hk; cases hk
                          · rw [f] at hk; injection hk with hk; exact Nat.le_trans (K0.out).size (Nat.le_of_eq hk)
                        refine hK.out _ _ (trivial) (fun hHeld => ?_)
                        clear hK K
                        (try simp only [Act.put, List.setIfInBounds_toArray, List.set_cons_zero, List.set_cons_succ])
                        refine wpAnyH_ready (rs := [4]) (by kernel_rfl) (by simp) ?_
                        refine (AllReadyH.cons (o := ?oQa4) ?hiQa4 (fun K hK => ?_) AllReadyH.nil)
                        case hiQa4 => (simp only [List.getElem?_toArray, List.getElem?_cons_succ, List.getElem?_cons_zero]; try rfl)
                        go_simp
                        refine hK.out _ _ (trivial) (fun hHeld => ?_)
                        clear hK K
                        (try simp only [Act.put, List.setIfInBounds_toArray, List.set_cons_zero, List.set_cons_succ])
                        have kA2 := kA.alloc (.cells #[.int .i64 0] 3 (0, 0))
                        refine wpAnyH_ready (rs := [5]) (by kernel_rfl) (by simp) ?_
                        refine (AllReadyH.cons (o := ?oQa5) ?hiQa5 (fun K hK => ?_) AllReadyH.nil)
                        case hiQa5 => (simp only [List.getElem?_toArray, List.getElem?_cons_succ, List.getElem?_cons_zero]; try rfl)
                        refine step_app 22 22 3 (.int .i64 0) 1 8 Try.underlying22 infoA rfl (by decide) (by decide) rfl rfl rfl rfl (v := .slice a1 k c1) (sv := (.slice (some ⟨W1a.heap.size, 0, none⟩) 1 1)) (hown1.alloc _) (src_oneK (x := 0) iC_one iC_len Try.underlying22 (heap_new W1a _) rfl 1) (by omega) ?_
                        intro a3 c3 W3 hown3 hgr3 hfr3
                        have kB : Keep NoF w6 W3 := (kA2).grown hgr3 (fun b hk e => by have := fr1 b e; omega)
                        have fr3 : ∀ b, (Value.slice a3 (k + 1) c3).ownBlock = some b → w6.heap.size ≤ b := fun b hk => by
                          rcases hfr3 with f | f
                          · rw [f] at hk; exact fr1 b hk
                          · rw [f] at hk; injection hk with hk; exact Nat.le_trans (kA2).size (Nat.le_of_eq hk)
                        refine hK.out _ _ (trivial) (fun hHeld => ?_)
                        clear hK K
                        (try simp only [Act.put, List.setIfInBounds_toArray, List.set_cons_zero, List.set_cons_succ])
                        refine wpAnyH_ready (rs := [9]) (by kernel_rfl) (by simp) ?_
                        refine (AllReadyH.cons (o := ?oQa9) ?hiQa9 (fun K hK => ?_) AllReadyH.nil)
                        case hiQa9 => (simp only [List.getElem?_toArray, List.getElem?_cons_succ, List.getElem?_cons_zero]; try rfl)
                        refine step_app 22 22 3 (.int .i64 0) 1 8 Try.underlying22 infoA rfl (by decide) (by decide) rfl rfl rfl rfl (v := .slice a3 (k + 1) c3) (sv := (.slice (fromA bo k cq 1) (n - k) (cq - k))) (hown3) (SRC2.out _ kB) (by omega) ?_
                        intro a4 c4 W4 hown4 hgr4 hfr4
                        have kC : Keep NoF w6 W4 := kB.grown hgr4 (fun b hk e => by have := fr3 b e; omega)
                        have fr4 : ∀ b, (Value.slice a4 (k + 1 + (n - k)) c4).ownBlock = some b → w6.heap.size ≤ b := fun b hk => by
                          rcases hfr4 with f | f
                          · rw [f] at hk; exact fr3 b hk
                          · rw [f] at hk; injection hk with hk; exact Nat.le_trans (kB).size (Nat.le_of_eq hk)
                        refine hK.out _ _ (trivial) (fun hHeld => ?_)
                        clear hK K
                        (try simp only [Act.put, List.setIfInBounds_toArray, List.set_cons_zero, List.set_cons_succ])
                        refine wpAnyH_take (i := 10) (oi := ?oQa10) (v := ?vQa10) ?hiQa10 (by kernel_rfl) (by kernel_rfl) (by kernel_rfl) (fun _ _ _ h => h) (Or.inl ⟨?wQa10, ?yQa10⟩) (by assumption) ?rQa10
                        case hiQa10 => (simp only [List.getElem?_toArray, List.getElem?_cons_succ, List.getElem?_cons_zero]; try rfl)
                        case wQa10 => rfl
                        case yQa10 => (intro w hSw; (try dsimp only at hSw); go_simp; (try with_reducible rfl))
                        (try simp only [Act.put, List.setIfInBounds_toArray, List.set_cons_zero, List.set_cons_succ])
                        refine wpAnyH_done (by kernel_rfl) ?_ _
                        refine NoPanic.normal ?_
                        have e1 : k + 1 + (n - k) = n + 1 := by omega
                        have e2 : (insAt A k 0).length = n + 1 := by rw [insAt_length (by rw [HNA.out]; exact hkn), HNA.out]
                        rw [e1] at hown4 fr4 ⊢
                        (try go_wp2_with fail)
                        go_meet
                        exact ⟨⟨a4, c4, by rw [e2], by rw [e2]; unfold insAt; rw [List.flatMap_append, List.flatMap_cons]; simpa [iC] using hown4, fr4⟩, kC⟩
                      · go_simp
                        refine hK.out _ _ (trivial) (fun hHeld => ?_)
                        clear hK K
                        (try simp only [Act.put, List.setIfInBounds_toArray, List.set_cons_zero, List.set_cons_succ])
                        have k1 := K0.out.alloc (.cells #[.int .i64 0] 3 (0, 0))
                        refine wpAnyH_ready (rs := [3]) (by kernel_rfl) (by simp) ?_
                        refine (AllReadyH.cons (o := ?oQb3) ?hiQb3 (fun K hK => ?_) AllReadyH.nil)
                        case hiQb3 => (simp only [List.getElem?_toArray, List.getElem?_cons_succ, List.getElem?_cons_zero]; try rfl)
                        refine step_app 22 22 3 (.int .i64 0) 1 8 Try.underlying22 infoA rfl (by decide) (by decide) rfl rfl rfl rfl (v := .slice none 0 0) (sv := (.slice bo k cq)) (World.ownsRow_nil _ _ _ _) (SRC1.out _ (k1)) (by omega) ?_
                        intro a1 c1 W1b hown1 hgr1 hfr1
                        simp only [Nat.zero_add, List.nil_append] at hown1 hgr1 hfr1 ⊢
                        have kA : Keep NoF w6 W1b := (k1).grown hgr1 (fun k _ e => by cases e)
                        have fr1 : ∀ b, (Value.slice a1 k c1).ownBlock = some b → w6.heap.size ≤ b := fun b hk => by
                          rcases hfr1 with f | f
                          · rw [f] at hk; cases hk
                          · rw [f] at hk; injection hk with hk; exact Nat.le_trans (k1).size (Nat.le_of_eq hk)
                        have hpb : W1b.heap[w6.heap.size]? = some (.cells #[.int .i64 0] 3 (0, 0)) := (hgr1.block w6.heap.size (by simp) (by simp [Value.ownBlock])).trans (heap_new w6.drew _)
                        refine hK.out _ _ (trivial) (fun hHeld => ?_)
                        clear hK K
                        (try simp only [Act.put, List.setIfInBounds_toArray, List.set_cons_zero, List.set_cons_succ])
                        refine wpAnyH_ready (rs := [5]) (by kernel_rfl) (by simp) ?_
                        refine (AllReadyH.cons (o := ?oQb5) ?hiQb5 (fun K hK => ?_) AllReadyH.nil)
                        case hiQb5 => (simp only [List.getElem?_toArray, List.getElem?_cons_succ, List.getElem?_cons_zero]; try rfl)
                        refine step_app 22 22 3 (.int .i64 0) 1 8 Try.underlying22 infoA rfl (by decide) (by decide) rfl rfl rfl rfl (v := .slice a1 k c1) (sv := (.slice (some ⟨w6.heap.size, 0, none⟩) 1 1)) (hown1) (src_oneK (x := 0) iC_one iC_len Try.underlying22 (hpb) rfl 1) (by omega) ?_
                        intro a3 c3 W3 hown3 hgr3 hfr3
                        have kB : Keep NoF w6 W3 := (kA).grown hgr3 (fun b hk e => by have := fr1 b e; omega)
                        have fr3 : ∀ b, (Value.slice a3 (k + 1) c3).ownBlock = some b → w6.heap.size ≤ b := fun b hk => by
                          rcases hfr3 with f | f
                          · rw [f] at hk; exact fr1 b hk
                          · rw [f] at hk; injection hk with hk; exact Nat.le_trans (kA).size (Nat.le_of_eq hk)
                        refine hK.out _ _ (trivial) (fun hHeld => ?_)
                        clear hK K
                        (try simp only [Act.put, List.setIfInBounds_toArray, List.set_cons_zero, List.set_cons_succ])
                        refine wpAnyH_ready (rs := [9]) (by kernel_rfl) (by simp) ?_
                        refine (AllReadyH.cons (o := ?oQb9) ?hiQb9 (fun K hK => ?_) AllReadyH.nil)
                        case hiQb9 => (simp only [List.getElem?_toArray, List.getElem?_cons_succ, List.getElem?_cons_zero]; try rfl)
                        refine step_app 22 22 3 (.int .i64 0) 1 8 Try.underlying22 infoA rfl (by decide) (by decide) rfl rfl rfl rfl (v := .slice a3 (k + 1) c3) (sv := (.slice (fromA bo k cq 1) (n - k) (cq - k))) (hown3) (SRC2.out _ kB) (by omega) ?_
                        intro a4 c4 W4 hown4 hgr4 hfr4
                        have kC : Keep NoF w6 W4 := kB.grown hgr4 (fun b hk e => by have := fr3 b e; omega)
                        have fr4 : ∀ b, (Value.slice a4 (k + 1 + (n - k)) c4).ownBlock = some b → w6.heap.size ≤ b := fun b hk => by
                          rcases hfr4 with f | f
                          · rw [f] at hk; exact fr3 b hk
                          · rw [f] at hk; injection hk with hk; exact Nat.le_trans (kB).size (Nat.le_of_eq hk)
                        refine hK.out _ _ (trivial) (fun hHeld => ?_)
                        clear hK K
                        (try simp only [Act.put, List.setIfInBounds_toArray, List.set_cons_zero, List.set_cons_succ])
                        refine wpAnyH_take (i := 10) (oi := ?oQb10) (v := ?vQb10) ?hiQb10 (by kernel_rfl) (by kernel_rfl) (by kernel_rfl) (fun _ _ _ h => h) (Or.inl ⟨?wQb10, ?yQb10⟩) (by assumption) ?rQb10
                        case hiQb10 => (simp only [List.getElem?_toArray, List.getElem?_cons_succ, List.getElem?_cons_zero]; try rfl)
                        case wQb10 => rfl
                        case yQb10 => (intro w hSw; (try dsimp only at hSw); go_simp; (try with_reducible rfl))
                        (try simp only [Act.put, List.setIfInBounds_toArray, List.set_cons_zero, List.set_cons_succ])
                        refine wpAnyH_done (by kernel_rfl) ?_ _
                        refine NoPanic.normal ?_
                        have e1 : k + 1 + (n - k) = n + 1 := by omega
                        have e2 : (insAt A k 0).length = n + 1 := by rw [insAt_length (by rw [HNA.out]; exact hkn), HNA.out]
                        rw [e1] at hown4 fr4 ⊢
                        (try go_wp2_with fail)
                        go_meet
                        exact ⟨⟨a4, c4, by rw [e2], by rw [e2]; unfold insAt; rw [List.flatMap_append, List.flatMap_cons]; simpa [iC] using hown4, fr4⟩, kC⟩
                    case rest =>
                      obtain ⟨hr7, hk7⟩ := hcut
                      obtain ⟨w7, rfl⟩ : ∃ W, W = wc := ⟨_, rfl⟩
                      have e2 : (insAt A k 0).length = n + 1 := by rw [insAt_length (by rw [HNA.out]; exact hkn), HNA.out]
                      obtain ⟨co, cr, rfl, hcr, hcrm, hra7⟩ := hr7.slice e2
                      have HRW7 := Lib.hid (HRW6.out.setA hk7 hr7 ⟨HLT6.out.1, HLT6.out.2.1⟩)
                      have HT7 := Lib.hid (HT6.out.keep hk7 (fun f => f) (fun f => f))
                      clear hr7 hk7 hra7
                      have hkn2 : k < n + 1 := by omega
                      have hkn3 : (k : Int) < ((n + 1 : Nat) : Int) := by omega
                      have hkn4 : decide (n + 1 ≤ k) = false := by simp; omega
                      have hkn5 : (k : Int) < (n : Int) + 1 := by omega
                      obtain ⟨g, hl, hc, hset⟩ := (HRW7.out).store e2 k hkn2
                      have HSET := Lib.hid (hset 0)
                      clear hset
                      have hz := HSET.out.2.1
                      obtain rfl := HSET.out.1
                      have HNX : Hid (Nx w p m (i + 1) most (w7.setCell ⟨g, k, none⟩ (.int .i64 0)) _ (.slice (some ⟨g, 0, none⟩) (n + 1) cr)) := Lib.hid ⟨insAt K k x, (insAt A k 0).set k 0, by rw [insAt_length (by rw [HN.out]; exact hkn), HN.out]; omega, ⟨⟨fun z => if z = x then 0 else f z, ((HT7.out.keep HSET.out.2.2.2.1 (fun e => HSET.out.2.2.2.2.1 e.symm) (fun e => HSET.out.2.2.2.2.2 e.symm)).mono (by omega)).iff (fun y => mem_insAt.symm), by rw [insAt_set (by rw [HNA.out]; exact hkn), HAF.out]; exact ins_map HXK.out⟩, ins_rise HSTR.out HTK.out HBL.out HXK.out, fun y hy => (mem_insAt.1 hy).elim (fun e => by omega) (HRG.out y), HSET.out.2.2.1⟩⟩
                      go_wp2_with fail
                      go_roundw
                      case rel => exact ⟨i + 1, by omega, by omega, by go_num, HNX.out⟩
                      case measure => simp [intOf]; omega
                · obtain ⟨hkK, hKx⟩ := HIN.out.1 (of_decide_eq_true HBIN.out)
                  have hkn2 : k < n := by rw [← HN.out]; exact hkK
                  have hkn3 : (k : Int) < n := by omega
                  have hkn4 : decide (n ≤ k) = false := by simp; omega
                  have HKX : Hid (∃ h : k < K.length, K[k] = x) := Lib.hid ⟨hkK, hKx⟩
                  clear hkK hKx
                  go_wp2_with fail
                  refine HTH.out.mono ?_
                  rintro e w5 ⟨rfl, hT5, hk5⟩
                  have HT5 := Lib.hid hT5
                  have HRW5 := Lib.hid (HRW.out.keep hk5)
                  clear hT5 hk5
                  obtain ⟨g, hl, hc, hset⟩ := (HRW5.out).store HNA.out k hkn2
                  have HSET := Lib.hid (hset 0)
                  clear hset
                  have hz := HSET.out.2.1
                  obtain rfl := HSET.out.1
                  have HNX : Hid (Nx w p m (i + 1) most (w5.setCell ⟨g, k, none⟩ (.int .i64 0)) (.slice ao n cp) (.slice (some ⟨g, 0, none⟩) n cq)) := Lib.hid ⟨K, A.set k 0, by rw [HN.out]; omega, ⟨⟨fun z => if z = x then 0 else f z, ((HT5.out.keep HSET.out.2.2.2.1 (fun e => HSET.out.2.2.2.2.1 e.symm) (fun e => HSET.out.2.2.2.2.2 e.symm)).mono (by omega)).iff (fun y => ⟨fun h => h.elim (fun e => by obtain ⟨h1, h2⟩ := HKX.out; rw [e, ← h2]; exact List.getElem_mem _) id, .inr⟩), by obtain ⟨h1, h2⟩ := HKX.out; rw [HAF.out, set_map HSTR.out h1, h2]⟩, HSTR.out, HRG.out, HSET.out.2.2.1⟩⟩
                  go_wp2_with fail
                  go_roundw
                  case rel => exact ⟨i + 1, by omega, by omega, by go_num, HNX.out⟩
                  case measure => simp [intOf]; omega
              · by_cases hk1 : kd = 1
                · subst hk1
                  clear hk0
                  have hth := tp_gone HTP.out x (by omega)
                  have hbi := HBIN.out
                  simp only [hbi] at hth
                  have HTH := Lib.hid hth
                  clear hth hbi
                  cases bin
                  · have HXK : Hid (x ∉ K) := Lib.hid (of_decide_eq_false HBIN.out)
                    go_wp2_with fail
                    refine HTH.out.mono ?_
                    rintro e w5 ⟨rfl, hT5, hk5⟩
                    have HNX : Hid (Nx w p m (i + 1) most w5 (.slice ao n cp) (.slice bo n cq)) := Lib.hid ⟨K, A, by rw [HN.out]; omega, ⟨⟨f, (hT5.mono (by omega)).iff (fun y => ⟨fun h => h.1, fun h => ⟨h, fun e => HXK.out (e ▸ h)⟩⟩), HAF.out⟩, HSTR.out, HRG.out, HRW.out.keep hk5⟩⟩
                    clear hT5 hk5
                    go_wp2_with fail
                    go_roundw
                    case rel => exact ⟨i + 1, by omega, by omega, by go_num, HNX.out⟩
                    case measure => simp [intOf]; omega
                  · obtain ⟨hkK, hKx⟩ := HIN.out.1 (of_decide_eq_true HBIN.out)
                    have hkn2 : k < n := by rw [← HN.out]; exact hkK
                    have hkn3 : (k : Int) < n := by omega
                    have HKX : Hid (∃ h : k < K.length, K[k] = x) := Lib.hid ⟨hkK, hKx⟩
                    clear hkK hKx
                    go_wp2_with fail
                    refine HTH.out.mono ?_
                    rintro e w5 ⟨rfl, hT5, hk5⟩
                    have HT5 := Lib.hid hT5
                    have HRW5 := Lib.hid (HRW.out.keep hk5)
                    have HLT5 := Lib.hid hT5.lt
                    clear hT5 hk5
                    have HRK5 : Hid (w5.ownsRow 0 3 1 (.slice ao n cp) n (K.flatMap iC)) := Lib.hid (by obtain ⟨ao', cp', e, h1, _⟩ := HRW5.out.rk; injection e with e1 e2 e3; subst e1 e3; rw [HN.out] at h1; exact h1)
                    go_upto_region 38 with fail
                    go_cut [7] from 152 to 160 (fun v wx => RowP 3 w5.heap.size wx v (K.eraseIdx k) ∧ Keep NoF w5 wx)
                    case first =>
                      have SRC1 : Hid (∀ W, Keep NoF w5 W → Src Try.prog 1 22 (.slice ao k cp) k ((K.take k).flatMap iC) W) := Lib.hid fun W hW => src_upto iC_len iC_one Try.underlying22 (row_keep HRK5.out hW (fun _ _ f => f)) HN.out k (by omega) cp
                      have SRC2 : Hid (∀ W, Keep NoF w5 W → Src Try.prog 1 22 (.slice (fromA ao (k + 1) cp 1) (n - (k + 1)) (cp - (k + 1))) (n - (k + 1)) ((K.drop (k + 1)).flatMap iC) W) := Lib.hid fun W hW => src_from iC_len iC_one Try.underlying22 (row_keep HRK5.out hW (fun _ _ f => f)) HN.out (k + 1) (by omega) (cp - (k + 1))
                      have HHI := Lib.hid (fun W => run_upto (P := Try.prog) Try.underlying22 infoA ao n cp k (by omega) W)
                      have hlo := fun W => run_from (P := Try.prog) Try.underlying22 infoA ao n cp (k + 1) (by omega) W
                      rw [show ((k + 1 : Nat) : Int) = (k : Int) + 1 by omega] at hlo
                      have HLO := Lib.hid hlo
                      clear hlo
                      have hsum : IntKind.i64.wrap ((k : Int) + 1) = k + 1 := IntWalk.i64_in _ (by omega)
                      have K0 := Lib.hid ((Keep.refl NoF w5).drew)
                      refine wp_region_noPanic ?_
                      refine wp_region_held_drew (S := (fun _ : World => True)) (by kernel_rfl) (trivial) (fun hHeld => ?_)
                      refine wpAnyH_take (i := 0) (oi := ?oR0) (v := ?vR0) ?hiR0 (by kernel_rfl) (by kernel_rfl) (by kernel_rfl) (fun _ _ _ h => h) (Or.inl ⟨?wR0, ?yR0⟩) (by assumption) ?rR0
                      case hiR0 => (simp only [List.getElem?_toArray, List.getElem?_cons_zero]; try rfl)
                      case wR0 => rfl
                      case yR0 => (intro w hSw; (try dsimp only at hSw); go_simp; (try with_reducible rfl))
                      (try simp only [Act.put, List.setIfInBounds_toArray, List.set_cons_zero, List.set_cons_succ])
                      refine wpAnyH_take (i := 1) (oi := ?oR1) (v := ?vR1) ?hiR1 (by kernel_rfl) (by kernel_rfl) (by kernel_rfl) (fun _ _ _ h => h) (Or.inl ⟨?wR1, ?yR1⟩) (by assumption) ?rR1
                      case hiR1 => (simp only [List.getElem?_toArray, List.getElem?_cons_succ, List.getElem?_cons_zero]; try rfl)
                      case wR1 => rfl
                      case yR1 => (intro w hSw; (try dsimp only at hSw); go_simp; (try with_reducible rfl))
                      (try simp only [Act.put, List.setIfInBounds_toArray, List.set_cons_zero, List.set_cons_succ])
                      refine wpAnyH_take (i := 2) (oi := ?oR2) (v := .slice ao k cp) ?hiR2 (by kernel_rfl) (by kernel_rfl) (by kernel_rfl) (fun _ _ _ h => h) (Or.inl ⟨?wR2, ?yR2⟩) (by assumption) ?rR2
                      case hiR2 => (simp only [List.getElem?_toArray, List.getElem?_cons_succ, List.getElem?_cons_zero]; try rfl)
                      case wR2 => rfl
                      case yR2 => (intro w hSw; exact slice_yields rfl (HHI.out w))
                      (try simp only [Act.put, List.setIfInBounds_toArray, List.set_cons_zero, List.set_cons_succ])
                      refine wpAnyH_take (i := 4) (oi := ?oR4) (v := ?vR4) ?hiR4 (by kernel_rfl) (by kernel_rfl) (by kernel_rfl) (fun _ _ _ h => h) (Or.inl ⟨?wR4, ?yR4⟩) (by assumption) ?rR4
                      case hiR4 => (simp only [List.getElem?_toArray, List.getElem?_cons_succ, List.getElem?_cons_zero]; try rfl)
                      case wR4 => rfl
                      case yR4 => (intro w hSw; (try dsimp only at hSw); go_simp; (try with_reducible rfl))
                      (try simp only [Act.put, List.setIfInBounds_toArray, List.set_cons_zero, List.set_cons_succ])
                      refine wpAnyH_take (i := 5) (oi := ?oR5) (v := ?vR5) ?hiR5 (by kernel_rfl) (by kernel_rfl) (by kernel_rfl) (fun _ _ _ h => h) (Or.inl ⟨?wR5, ?yR5⟩) (by assumption) ?rR5
                      case hiR5 => (simp only [List.getElem?_toArray, List.getElem?_cons_succ, List.getElem?_cons_zero]; try rfl)
                      case wR5 => rfl
                      case yR5 => (intro w hSw; (try dsimp only at hSw); go_simp; (try with_reducible rfl))
                      (try simp only [Act.put, List.setIfInBounds_toArray, List.set_cons_zero, List.set_cons_succ])
                      refine wpAnyH_take (i := 6) (oi := ?oR6) (v := ?vR6) ?hiR6 (by kernel_rfl) (by kernel_rfl) (by kernel_rfl) (fun _ _ _ h => h) (Or.inl ⟨?wR6, ?yR6⟩) (by assumption) ?rR6
                      case hiR6 => (simp only [List.getElem?_toArray, List.getElem?_cons_succ, List.getElem?_cons_zero]; try rfl)
                      case wR6 => rfl
                      case yR6 => (intro w hSw; (try dsimp only at hSw); go_simp; (try with_reducible rfl))
                      (try simp only [Act.put, List.setIfInBounds_toArray, List.set_cons_zero, List.set_cons_succ])
                      refine wpAnyH_take (i := 7) (oi := ?oR7) (v := .slice (fromA ao (k + 1) cp 1) (n - (k + 1)) (cp - (k + 1))) ?hiR7 (by kernel_rfl) (by kernel_rfl) (by kernel_rfl) (fun _ _ _ h => h) (Or.inl ⟨?wR7, ?yR7⟩) (by assumption) ?rR7
                      case hiR7 => (simp only [List.getElem?_toArray, List.getElem?_cons_succ, List.getElem?_cons_zero]; try rfl)
                      case wR7 => rfl
                      case yR7 => (intro w hSw; exact slice_yields rfl (HLO.out w))
                      (try simp only [Act.put, List.setIfInBounds_toArray, List.set_cons_zero, List.set_cons_succ])
                      refine wpAnyH_ready (rs := [3]) (by kernel_rfl) (by simp) ?_
                      refine (AllReadyH.cons (o := ?oR3) ?hiR3 (fun K hK => ?_) AllReadyH.nil)
                      case hiR3 => (simp only [List.getElem?_toArray, List.getElem?_cons_succ, List.getElem?_cons_zero]; try rfl)
                      refine step_app 22 22 3 (.int .i64 0) 1 8 Try.underlying22 infoA rfl (by decide) (by decide) rfl rfl rfl rfl (v := .slice none 0 0) (sv := (.slice ao k cp)) (World.ownsRow_nil _ _ _ _) (SRC1.out _ (K0.out)) (by omega) ?_
                      intro a1 c1 W1' hown1 hgr1 hfr1
                      simp only [Nat.zero_add, List.nil_append] at hown1 hgr1 hfr1 ⊢
                      have kA : Keep NoF w5 W1' := (K0.out).grown hgr1 (fun k _ e => by cases e)
                      have fr1 : ∀ b, (Value.slice a1 k c1).ownBlock = some b → w5.heap.size ≤ b := fun b hk => by
                        rcases hfr1 with f | f
                        · rw [f] at hk; cases hk
                        · rw [f] at hk; injection hk with hk; exact Nat.le_trans (K0.out).size (Nat.le_of_eq hk)
                      refine hK.out _ _ (trivial) (fun hHeld => ?_)
                      clear hK K
                      (try simp only [Act.put, List.setIfInBounds_toArray, List.set_cons_zero, List.set_cons_succ])
                      refine wpAnyH_ready (rs := [8]) (by kernel_rfl) (by simp) ?_
                      refine (AllReadyH.cons (o := ?oR8) ?hiR8 (fun K hK => ?_) AllReadyH.nil)
                      case hiR8 => (simp only [List.getElem?_toArray, List.getElem?_cons_succ, List.getElem?_cons_zero]; try rfl)
                      refine step_app 22 22 3 (.int .i64 0) 1 8 Try.underlying22 infoA rfl (by decide) (by decide) rfl rfl rfl rfl (v := .slice a1 k c1) (sv := (.slice (fromA ao (k + 1) cp 1) (n - (k + 1)) (cp - (k + 1)))) (hown1) (SRC2.out _ kA) (by omega) ?_
                      intro a3 c3 W3 hown3 hgr3 hfr3
                      have kB : Keep NoF w5 W3 := kA.grown hgr3 (fun b hk e => by have := fr1 b e; omega)
                      have fr3 : ∀ b, (Value.slice a3 (k + (n - (k + 1))) c3).ownBlock = some b → w5.heap.size ≤ b := fun b hk => by
                        rcases hfr3 with f | f
                        · rw [f] at hk; exact fr1 b hk
                        · rw [f] at hk; injection hk with hk; exact Nat.le_trans (kA).size (Nat.le_of_eq hk)
                      refine hK.out _ _ (trivial) (fun hHeld => ?_)
                      clear hK K
                      (try simp only [Act.put, List.setIfInBounds_toArray, List.set_cons_zero, List.set_cons_succ])
                      refine wpAnyH_take (i := 9) (oi := ?oR9) (v := ?vR9) ?hiR9 (by kernel_rfl) (by kernel_rfl) (by kernel_rfl) (fun _ _ _ h => h) (Or.inl ⟨?wR9, ?yR9⟩) (by assumption) ?rR9
                      case hiR9 => (simp only [List.getElem?_toArray, List.getElem?_cons_succ, List.getElem?_cons_zero]; try rfl)
                      case wR9 => rfl
                      case yR9 => (intro w hSw; (try dsimp only at hSw); go_simp; (try with_reducible rfl))
                      (try simp only [Act.put, List.setIfInBounds_toArray, List.set_cons_zero, List.set_cons_succ])
                      refine wpAnyH_done (by kernel_rfl) ?_ _
                      refine NoPanic.normal ?_
                      have e1 : k + (n - (k + 1)) = n - 1 := by omega
                      have e2 : (K.eraseIdx k).length = n - 1 := by rw [List.length_eraseIdx_of_lt (by rw [HN.out]; exact hkn2), HN.out]
                      rw [e1] at hown3 fr3 ⊢
                      (try go_wp2_with fail)
                      go_meet
                      exact ⟨⟨a3, c3, by rw [e2], by rw [e2, List.eraseIdx_eq_take_drop_succ, List.flatMap_append]; exact hown3, fr3⟩, kB⟩
                    case rest =>
                      obtain ⟨hr6, hk6⟩ := hcut
                      obtain ⟨w6, rfl⟩ : ∃ W, W = wc := ⟨_, rfl⟩
                      have HRW6 := Lib.hid (HRW5.out.setK hk6 hr6 ⟨HLT5.out.1, HLT5.out.2.1⟩)
                      have HT6 := Lib.hid (HT5.out.keep hk6 (fun f => f) (fun f => f))
                      have HLT6 := Lib.hid HT6.out.lt
                      clear hr6 hk6
                      have HRA6 : Hid (w6.ownsRow 0 3 1 (.slice bo n cq) n (A.flatMap iC)) := Lib.hid (by obtain ⟨ao', cp', e, h1, _⟩ := HRW6.out.ra; injection e with e1 e2 e3; subst e1 e3; rw [HNA.out] at h1; exact h1)
                      go_upto_region 39 with fail
                      have SRC1 : Hid (∀ W, Keep NoF w6 W → Src Try.prog 1 22 (.slice bo k cq) k ((A.take k).flatMap iC) W) := Lib.hid fun W hW => src_upto iC_len iC_one Try.underlying22 (row_keep HRA6.out hW (fun _ _ f => f)) HNA.out k (by omega) cq
                      have SRC2 : Hid (∀ W, Keep NoF w6 W → Src Try.prog 1 22 (.slice (fromA bo (k + 1) cq 1) (n - (k + 1)) (cq - (k + 1))) (n - (k + 1)) ((A.drop (k + 1)).flatMap iC) W) := Lib.hid fun W hW => src_from iC_len iC_one Try.underlying22 (row_keep HRA6.out hW (fun _ _ f => f)) HNA.out (k + 1) (by omega) (cq - (k + 1))
                      have HHI := Lib.hid (fun W => run_upto (P := Try.prog) Try.underlying22 infoA bo n cq k (by omega) W)
                      have hlo := fun W => run_from (P := Try.prog) Try.underlying22 infoA bo n cq (k + 1) (by omega) W
                      rw [show ((k + 1 : Nat) : Int) = (k : Int) + 1 by omega] at hlo
                      have HLO := Lib.hid hlo
                      clear hlo
                      have hsum : IntKind.i64.wrap ((k : Int) + 1) = k + 1 := IntWalk.i64_in _ (by omega)
                      have K0 := Lib.hid ((Keep.refl NoF w6).drew)
                      refine wp_region_noPanic ?_
                      refine wp_region_held_drew (S := (fun _ : World => True)) (by kernel_rfl) (trivial) (fun hHeld => ?_)
                      refine wpAnyH_take (i := 0) (oi := ?oU0) (v := ?vU0) ?hiU0 (by kernel_rfl) (by kernel_rfl) (by kernel_rfl) (fun _ _ _ h => h) (Or.inl ⟨?wU0, ?yU0⟩) (by assumption) ?rU0
                      case hiU0 => (simp only [List.getElem?_toArray, List.getElem?_cons_zero]; try rfl)
                      case wU0 => rfl
                      case yU0 => (intro w hSw; (try dsimp only at hSw); go_simp; (try with_reducible rfl))
                      (try simp only [Act.put, List.setIfInBounds_toArray, List.set_cons_zero, List.set_cons_succ])
                      refine wpAnyH_take (i := 1) (oi := ?oU1) (v := ?vU1) ?hiU1 (by kernel_rfl) (by kernel_rfl) (by kernel_rfl) (fun _ _ _ h => h) (Or.inl ⟨?wU1, ?yU1⟩) (by assumption) ?rU1
                      case hiU1 => (simp only [List.getElem?_toArray, List.getElem?_cons_succ, List.getElem?_cons_zero]; try rfl)
                      case wU1 => rfl
                      case yU1 => (intro w hSw; (try dsimp only at hSw); go_simp; (try with_reducible rfl))
                      (try simp only [Act.put, List.setIfInBounds_toArray, List.set_cons_zero, List.set_cons_succ])
                      refine wpAnyH_take (i := 2) (oi := ?oU2) (v := .slice bo k cq) ?hiU2 (by kernel_rfl) (by kernel_rfl) (by kernel_rfl) (fun _ _ _ h => h) (Or.inl ⟨?wU2, ?yU2⟩) (by assumption) ?rU2
                      case hiU2 => (simp only [List.getElem?_toArray, List.getElem?_cons_succ, List.getElem?_cons_zero]; try rfl)
                      case wU2 => rfl
                      case yU2 => (intro w hSw; exact slice_yields rfl (HHI.out w))
                      (try simp only [Act.put, List.setIfInBounds_toArray, List.set_cons_zero, List.set_cons_succ])
                      refine wpAnyH_take (i := 4) (oi := ?oU4) (v := ?vU4) ?hiU4 (by kernel_rfl) (by kernel_rfl) (by kernel_rfl) (fun _ _ _ h => h) (Or.inl ⟨?wU4, ?yU4⟩) (by assumption) ?rU4
                      case hiU4 => (simp only [List.getElem?_toArray, List.getElem?_cons_succ, List.getElem?_cons_zero]; try rfl)
                      case wU4 => rfl
                      case yU4 => (intro w hSw; (try dsimp only at hSw); go_simp; (try with_reducible rfl))
                      (try simp only [Act.put, List.setIfInBounds_toArray, List.set_cons_zero, List.set_cons_succ])
                      refine wpAnyH_take (i := 5) (oi := ?oU5) (v := ?vU5) ?hiU5 (by kernel_rfl) (by kernel_rfl) (by kernel_rfl) (fun _ _ _ h => h) (Or.inl ⟨?wU5, ?yU5⟩) (by assumption) ?rU5
                      case hiU5 => (simp only [List.getElem?_toArray, List.getElem?_cons_succ, List.getElem?_cons_zero]; try rfl)
                      case wU5 => rfl
                      case yU5 => (intro w hSw; (try dsimp only at hSw); go_simp; (try with_reducible rfl))
                      (try simp only [Act.put, List.setIfInBounds_toArray, List.set_cons_zero, List.set_cons_succ])
                      refine wpAnyH_take (i := 6) (oi := ?oU6) (v := ?vU6) ?hiU6 (by kernel_rfl) (by kernel_rfl) (by kernel_rfl) (fun _ _ _ h => h) (Or.inl ⟨?wU6, ?yU6⟩) (by assumption) ?rU6
                      case hiU6 => (simp only [List.getElem?_toArray, List.getElem?_cons_succ, List.getElem?_cons_zero]; try rfl)
                      case wU6 => rfl
                      case yU6 => (intro w hSw; (try dsimp only at hSw); go_simp; (try with_reducible rfl))
                      (try simp only [Act.put, List.setIfInBounds_toArray, List.set_cons_zero, List.set_cons_succ])
                      refine wpAnyH_take (i := 7) (oi := ?oU7) (v := .slice (fromA bo (k + 1) cq 1) (n - (k + 1)) (cq - (k + 1))) ?hiU7 (by kernel_rfl) (by kernel_rfl) (by kernel_rfl) (fun _ _ _ h => h) (Or.inl ⟨?wU7, ?yU7⟩) (by assumption) ?rU7
                      case hiU7 => (simp only [List.getElem?_toArray, List.getElem?_cons_succ, List.getElem?_cons_zero]; try rfl)
                      case wU7 => rfl
                      case yU7 => (intro w hSw; exact slice_yields rfl (HLO.out w))
                      (try simp only [Act.put, List.setIfInBounds_toArray, List.set_cons_zero, List.set_cons_succ])
                      refine wpAnyH_ready (rs := [3]) (by kernel_rfl) (by simp) ?_
                      refine (AllReadyH.cons (o := ?oU3) ?hiU3 (fun K hK => ?_) AllReadyH.nil)
                      case hiU3 => (simp only [List.getElem?_toArray, List.getElem?_cons_succ, List.getElem?_cons_zero]; try rfl)
                      refine step_app 22 22 3 (.int .i64 0) 1 8 Try.underlying22 infoA rfl (by decide) (by decide) rfl rfl rfl rfl (v := .slice none 0 0) (sv := (.slice bo k cq)) (World.ownsRow_nil _ _ _ _) (SRC1.out _ (K0.out)) (by omega) ?_
                      intro a1 c1 W1' hown1 hgr1 hfr1
                      simp only [Nat.zero_add, List.nil_append] at hown1 hgr1 hfr1 ⊢
                      have kA : Keep NoF w6 W1' := (K0.out).grown hgr1 (fun k _ e => by cases e)
                      have fr1 : ∀ b, (Value.slice a1 k c1).ownBlock = some b → w6.heap.size ≤ b := fun b hk => by
                        rcases hfr1 with f | f
                        · rw [f] at hk; cases hk
                        · rw [f] at hk; injection hk with hk; exact Nat.le_trans (K0.out).size (Nat.le_of_eq hk)
                      refine hK.out _ _ (trivial) (fun hHeld => ?_)
                      clear hK K
                      (try simp only [Act.put, List.setIfInBounds_toArray, List.set_cons_zero, List.set_cons_succ])
                      refine wpAnyH_ready (rs := [8]) (by kernel_rfl) (by simp) ?_
                      refine (AllReadyH.cons (o := ?oU8) ?hiU8 (fun K hK => ?_) AllReadyH.nil)
                      case hiU8 => (simp only [List.getElem?_toArray, List.getElem?_cons_succ, List.getElem?_cons_zero]; try rfl)
                      refine step_app 22 22 3 (.int .i64 0) 1 8 Try.underlying22 infoA rfl (by decide) (by decide) rfl rfl rfl rfl (v := .slice a1 k c1) (sv := (.slice (fromA bo (k + 1) cq 1) (n - (k + 1)) (cq - (k + 1)))) (hown1) (SRC2.out _ kA) (by omega) ?_
                      intro a3 c3 W3 hown3 hgr3 hfr3
                      have kB : Keep NoF w6 W3 := kA.grown hgr3 (fun b hk e => by have := fr1 b e; omega)
                      have fr3 : ∀ b, (Value.slice a3 (k + (n - (k + 1))) c3).ownBlock = some b → w6.heap.size ≤ b := fun b hk => by
                        rcases hfr3 with f | f
                        · rw [f] at hk; exact fr1 b hk
                        · rw [f] at hk; injection hk with hk; exact Nat.le_trans (kA).size (Nat.le_of_eq hk)
                      refine hK.out _ _ (trivial) (fun hHeld => ?_)
                      clear hK K
                      (try simp only [Act.put, List.setIfInBounds_toArray, List.set_cons_zero, List.set_cons_succ])
                      refine wpAnyH_take (i := 9) (oi := ?oU9) (v := ?vU9) ?hiU9 (by kernel_rfl) (by kernel_rfl) (by kernel_rfl) (fun _ _ _ h => h) (Or.inl ⟨?wU9, ?yU9⟩) (by assumption) ?rU9
                      case hiU9 => (simp only [List.getElem?_toArray, List.getElem?_cons_succ, List.getElem?_cons_zero]; try rfl)
                      case wU9 => rfl
                      case yU9 => (intro w hSw; (try dsimp only at hSw); go_simp; (try with_reducible rfl))
                      (try simp only [Act.put, List.setIfInBounds_toArray, List.set_cons_zero, List.set_cons_succ])
                      refine wpAnyH_done (by kernel_rfl) ?_ _
                      refine NoPanic.normal ?_
                      have e1 : k + (n - (k + 1)) = n - 1 := by omega
                      have e2 : (A.eraseIdx k).length = n - 1 := by rw [List.length_eraseIdx_of_lt (by rw [HNA.out]; exact hkn2), HNA.out]
                      rw [e1] at hown3 fr3 ⊢
                      have hr7 : RowP 3 w6.heap.size W3 (.slice a3 (n - 1) c3) (A.eraseIdx k) := ⟨a3, c3, by rw [e2], by rw [e2, List.eraseIdx_eq_take_drop_succ, List.flatMap_append]; exact hown3, fr3⟩
                      have HNX : Hid (Nx w p m (i + 1) most W3 _ (.slice a3 (n - 1) c3)) := Lib.hid ⟨K.eraseIdx k, A.eraseIdx k, by rw [List.length_eraseIdx_of_lt (by rw [HN.out]; exact hkn2), HN.out]; omega, ⟨⟨f, ((HT6.out.keep kB (fun f => f) (fun f => f)).mono (by omega)).iff (fun y => by obtain ⟨h1, h2⟩ := HKX.out; rw [mem_cut HSTR.out h1, h2]), by rw [HAF.out, cut_map]⟩, HSTR.out.sublist (List.eraseIdx_sublist _ _), fun y hy => HRG.out y (List.mem_of_mem_eraseIdx hy), HRW6.out.setA kB hr7 ⟨HLT6.out.1, HLT6.out.2.1⟩⟩⟩
                      clear hown1 hgr1 hfr1 fr1 hown3 hgr3 hfr3 fr3 kA kB hr7 e1 e2
                      go_wp2_with fail
                      go_roundw
                      case rel => exact ⟨i + 1, by omega, by omega, by go_num, HNX.out⟩
                      case measure => simp [intOf]; omega
                · have hd0 : (kd == 0) = false := by simp [hk0]
                  have hd1 : (kd == 1) = false := by simp [hk1]
                  have htk := tp_tick HTP.out HSTR.out (by rw [HN.out]; omega)
                  have HTK2 := Lib.hid htk
                  clear htk hk0 hk1
                  have HCC : Hid (∀ j (hj : j < K.length), (decide (most ≤ f K[j] + 1)) = (fun x => decide (most ≤ f x + 1)) K[j]) := Lib.hid fun _ _ => rfl
                  obtain ⟨LL, hLL⟩ : ∃ LL, lateK most K f = LL := ⟨_, rfl⟩
                  obtain ⟨nl, hnl⟩ : ∃ nl, LL.length = nl := ⟨_, rfl⟩
                  rw [hLL] at HTK2
                  have HLL := Lib.hid hLL; have HNL := Lib.hid hnl
                  clear hLL hnl
                  go_wp2_with fail
                  refine HTK2.out.mono ?_
                  rintro e w5 ⟨lv, rfl, hr5, hT5, hk5⟩
                  have HR5 := Lib.hid hr5
                  have HT5 := Lib.hid hT5
                  have HRW5 := Lib.hid (HRW.out.keep hk5)
                  obtain ⟨lo, lc, rfl, hlc, hlcm, _⟩ := hr5.slice HNL.out
                  clear hr5 hT5 hk5 hd0 hd1
                  go_wp2_with fail
                  go_loopw [14, 15] (fun nv jv wq => ∃ j M : Nat, j ≤ n ∧ M ≤ j ∧ jv = .int .i64 j ∧ nv = .int .i64 M ∧ ((K.take j).filter fun x => decide (most ≤ f x + 1)).length = M ∧ T3 w W1 wq p m (61 * i + K.length) most K f (.slice ao n cp) (.slice bo n cq) (.slice lo nl lc) LL j) (fun _ jv _ => n - (intOf jv).toNat)
                  case atStart => exact ⟨0, 0, Nat.zero_le _, Nat.le_refl _, rfl, rfl, by simp, t3_zero HAF.out HRW5.out HT5.out HR5.out HRW.out.ra.lt⟩
                  case round =>
                    obtain ⟨j, M, hj, hMj, rfl, rfl, hM, hT⟩ := hrel
                    have HM := Lib.hid hM; have HT := Lib.hid hT
                    clear hM hT
                    by_cases hlt : j < n
                    · have hlt2 : (j : Int) < n := by omega
                      have hil3 : decide (n ≤ j) = false := by simp; omega
                      have hjK : j < K.length := by rw [HN.out]; exact hlt
                      obtain ⟨g, rfl, hc, hz, hset⟩ := t3_step HT.out HN.out j hlt
                      obtain ⟨y, hy⟩ : ∃ y, K[j] = y := ⟨_, rfl⟩
                      obtain ⟨fy, hfy⟩ : ∃ fy, f y = fy := ⟨_, rfl⟩
                      have hfr := HTP.out.rng y (by rw [← hy]; exact List.getElem_mem _)
                      rw [hfy] at hfr
                      simp only [hy, hfy] at hc hset
                      have hyb := HRG.out y (by rw [← hy]; exact List.getElem_mem _)
                      have hsum : IntKind.i64.wrap (fy + 1) = fy + 1 := IntWalk.i64_in _ (by omega)
                      have HSET := Lib.hid hset; have HY := Lib.hid hy; have HFY := Lib.hid hfy
                      clear hset hy hfy
                      go_upto_region 21 with fail
                      refine wp_phi (φ := fun W => T3 w W1 W p m (61 * i + K.length) most K f (.slice ao n cp) (.slice (some ⟨g, 0, none⟩) n cq) (.slice lo nl lc) LL (j + 1) ∧ W.cell? ⟨g, j, none⟩ = some (.int .i64 (fy + 1))) HSET.out ?_
                      rintro W6 ⟨hT6, hc6⟩
                      have HT6 := Lib.hid hT6
                      clear hc hz hT6 hsum
                      have hfs := filter_succ (c := fun x => decide (most ≤ f x + 1)) hjK
                      simp only [HY.out, HFY.out, HM.out] at hfs
                      by_cases hmo : most ≤ fy + 1
                      · have hmd : decide (most ≤ fy + 1) = true := decide_eq_true hmo
                        obtain ⟨hfl, hfa⟩ := filter_at (c := fun x => decide (most ≤ f x + 1)) hjK (by simp only [HY.out, HFY.out]; exact hmd)
                        simp only [HM.out] at hfl hfa
                        rw [HY.out] at hfa
                        rw [hmd, if_pos rfl] at hfs
                        have HFS := Lib.hid hfs
                        have hMl : M < nl := by rw [← HNL.out, ← HLL.out]; exact hfl
                        have hMl2 : (M : Int) < nl := by omega
                        have hMl3 : decide (nl ≤ M) = false := by simp; omega
                        have hMl4 : ¬ (nl : Int) ≤ M := by omega
                        have hMl5 : decide ((nl : Int) ≤ M) = false := by simp; omega
                        obtain ⟨g1, e1, d1⟩ := t3_key HT6.out HN.out j hlt
                        obtain ⟨g2, e2, d2⟩ := t3_late HT6.out HNL.out M hMl
                        subst e1 e2
                        have hLM : LL[M]'(by rw [HNL.out]; exact hMl) = y := by rw [← hfa]; congr 1; rw [← HLL.out]; rfl
                        rw [HY.out] at d1
                        rw [hLM] at d2
                        clear hfs hfl hfa hLM
                        go_wp2_with fail
                        go_quiet (fail)
                        go_wp2_with fail
                        go_roundw
                        case rel => exact ⟨j + 1, M + 1, by omega, by omega, by go_num, by go_num, HFS.out, HT6.out.keep (by first | exact (Keep.refl NoF W6).drewN _ | exact (Keep.refl NoF W6).drew)⟩
                        case measure => simp [intOf]; omega
                      · have hmd : decide (most ≤ fy + 1) = false := decide_eq_false hmo
                        rw [hmd] at hfs
                        have HFS := Lib.hid hfs
                        clear hfs
                        go_wp2_with fail
                        go_roundw
                        case rel => exact ⟨j + 1, M, by omega, by omega, by go_num, rfl, by simpa using HFS.out, HT6.out⟩
                        case measure => simp [intOf]; omega
                    · have hlt2 : ¬ (j : Int) < n := by omega
                      have hlt3 : decide (j < n) = false := by simp [hlt]
                      obtain rfl : j = n := by omega
                      have hMn : M = nl := by rw [← HM.out, List.take_of_length_le (by rw [HN.out]; exact Nat.le_refl _), ← HNL.out, ← HLL.out]; rfl
                      subst hMn
                      have hne : ((M : Int) != M) = false := by simp
                      have HNX : Hid (Nx w p m (i + 1) most wr (.slice ao j cp) (.slice bo j cq)) := Lib.hid ⟨K, K.map (fun z => f z + 1), by rw [HN.out]; omega, ⟨⟨_, HT.out.2.1.mono (by rw [HN.out]; omega), rfl⟩, HSTR.out, HRG.out, t3_end HT.out HN.out⟩⟩
                      go_wp2_with fail
                      go_roundw
                      case rel => exact ⟨i + 1, by omega, by omega, by go_num, HNX.out⟩
                      case measure => simp [intOf]; omega
    · obtain ⟨wq, rfl⟩ : ∃ W, W = wr := ⟨_, rfl⟩
      obtain ⟨⟨f, hTP, hAf⟩, hst, hrg, hrw⟩ := HS.out
      have HTP := Lib.hid hTP; have HAF := Lib.hid hAf; have HSTR := Lib.hid hst; have HRG := Lib.hid hrg; have HRW := Lib.hid hrw
      clear hTP hAf hst hrg hrw
      have hcase : (decide (i < len1) = false) ∨ (decide ((i : Int) < len1) = true ∧ decide ((i : Int) < 60) = false) := by
        by_cases h1 : (i : Int) < len1
        · right; exact ⟨decide_eq_true h1, decide_eq_false (by omega)⟩
        · left; exact decide_eq_false (by omega)
      have HALL := Lib.hid (tp_all HTP.out HSTR.out (by omega))
      clear hlt hi hi60 hKi
      rcases hcase with hd1 | ⟨hd1, hd2⟩
      · skip
        go_wp2_with fail
        refine HALL.out.mono ?_
        rintro e w5 ⟨v5, rfl, hr5, hk5⟩
        have HR5 := Lib.hid hr5; have HT5 := Lib.hid (HTP.out.keep hk5 (fun f => f) (fun f => f)); have HRW5 := Lib.hid (HRW.out.keepN hk5)
        obtain ⟨lo, lc, rfl, hlc, hlcm, _⟩ := hr5.slice HN.out
        clear hr5 hk5
        (try clear hn1)
        (try clear hn2)
        (try clear hd1)
        (try clear hd2)
        go_wp2_with fail
        go_loopw [17] (fun jv wr => ∃ j : Nat, j ≤ n ∧ jv = .int .i64 j ∧ Keep NoF w5 wr) (fun jv _ => n - (intOf jv).toNat)
        case atStart => exact ⟨0, Nat.zero_le _, rfl, Keep.refl _ _⟩
        case round =>
          obtain ⟨j, hj, rfl, hk⟩ := hrel
          have HK := Lib.hid hk
          clear hk
          have HT6 := Lib.hid (HT5.out.keep HK.out (fun f => f) (fun f => f)); have HRW6 := Lib.hid (HRW5.out.keepN HK.out); have HR6 := Lib.hid (HR5.out.keep HK.out (fun _ _ f => f))
          by_cases hlt : j < n
          · have hlt2 : (j : Int) < n := by omega
            have hil3 : decide (n ≤ j) = false := by simp; omega
            have hjK : j < K.length := by rw [HN.out]; exact hlt
            obtain ⟨y, hy⟩ : ∃ y, K[j] = y := ⟨_, rfl⟩
            have hyK : y ∈ K := by rw [← hy]; exact List.getElem_mem _
            have hyb := HRG.out y hyK
            obtain ⟨fy, hfy⟩ : ∃ fy, f y = fy := ⟨_, rfl⟩
            obtain ⟨co, cr, e1, _, _, hr1⟩ := HRW6.out.rk.slice HN.out
            injection e1 with e2 e3 e4
            subst e2 e4
            obtain ⟨g1, rfl, d1⟩ := row_at hr1 HN.out j hjK
            obtain ⟨co2, cr2, e1, _, _, hr2⟩ := HR6.out.slice HN.out
            injection e1 with e2 e3 e4
            subst e2 e4
            obtain ⟨g2, rfl, d2⟩ := row_at hr2 HN.out j hjK
            obtain ⟨co3, cr3, e1, _, _, hr3⟩ := HRW6.out.ra.slice HNA.out
            injection e1 with e2 e3 e4
            subst e2 e4
            obtain ⟨g3, rfl, d3⟩ := row_at hr3 HNA.out j (by rw [HNA.out]; exact hlt)
            have hAj : A[j]'(by rw [HNA.out]; exact hlt) = fy := by rw [← hfy, ← hy]; simp only [HAF.out, List.getElem_map]
            rw [hy] at d1 d2
            rw [hAj] at d3
            have hag := fun W (hW : Keep NoF wr W) => tp_age (HT6.out.keep hW (fun f => f) (fun f => f)) y (by omega)
            have hha := fun W (hW : Keep NoF wr W) => tp_has (HT6.out.keep hW (fun f => f) (fun f => f)) y (by omega)
            simp only [hyK, if_true, hfy, decide_true] at hag hha
            have HAG := Lib.hid hag; have HHA := Lib.hid hha
            have D1 := Lib.hid d1; have D2 := Lib.hid d2; have D3 := Lib.hid d3
            have HC : Hid (∀ W, Keep NoF wr W → W.cell? ⟨g2, j, none⟩ = some (.int .i64 y) ∧ W.cell? ⟨g1, j, none⟩ = some (.int .i64 y) ∧ W.cell? ⟨g3, j, none⟩ = some (.int .i64 fy)) := Lib.hid fun W hW => ⟨hW.cell' D2.out (fun f => f), hW.cell' D1.out (fun f => f), hW.cell' D3.out (fun f => f)⟩
            clear hr1 hr2 hr3 hAj hag hha hy hyK hfy hyb d1 d2 d3 hjK
            have K0 := Lib.hid ((Keep.refl NoF wr).drew)
            go_wp2_with fail
            refine wp_region_noPanic ?_
            refine wp_region_held_drew (S := (fun W' : World => W'.cell? ⟨g2, j, none⟩ = some (.int .i64 y) ∧ W'.cell? ⟨g1, j, none⟩ = some (.int .i64 y) ∧ W'.cell? ⟨g3, j, none⟩ = some (.int .i64 fy))) (by kernel_rfl) (HC.out _ K0.out) (fun hHeld => ?_)
            refine wpAnyH_take (i := 0) (oi := ?oZA0) (v := ?vZA0) ?hiZA0 (by kernel_rfl) (by kernel_rfl) (by kernel_rfl) (fun _ _ _ h => h) (Or.inl ⟨?wZA0, ?yZA0⟩) (by assumption) ?rZA0
            case hiZA0 => (simp only [List.getElem?_toArray, List.getElem?_cons_zero]; try rfl)
            case wZA0 => rfl
            case yZA0 => (intro w hSw; (try dsimp only at hSw); go_simp; (try with_reducible rfl))
            (try simp only [Act.put, List.setIfInBounds_toArray, List.set_cons_zero, List.set_cons_succ])
            refine wpAnyH_take (i := 1) (oi := ?oZA1) (v := ?vZA1) ?hiZA1 (by kernel_rfl) (by kernel_rfl) (by kernel_rfl) (fun _ _ _ h => h) (Or.inl ⟨?wZA1, ?yZA1⟩) (by assumption) ?rZA1
            case hiZA1 => (simp only [List.getElem?_toArray, List.getElem?_cons_succ, List.getElem?_cons_zero]; try rfl)
            case wZA1 => rfl
            case yZA1 => (intro w hSw; (try dsimp only at hSw); go_simp; (try with_reducible rfl))
            (try simp only [Act.put, List.setIfInBounds_toArray, List.set_cons_zero, List.set_cons_succ])
            refine wpAnyH_take (i := 2) (oi := ?oZA2) (v := ?vZA2) ?hiZA2 (by kernel_rfl) (by kernel_rfl) (by kernel_rfl) (fun _ _ _ h => h) (Or.inl ⟨?wZA2, ?yZA2⟩) (by assumption) ?rZA2
            case hiZA2 => (simp only [List.getElem?_toArray, List.getElem?_cons_succ, List.getElem?_cons_zero]; try rfl)
            case wZA2 => rfl
            case yZA2 => (intro w hSw; (try dsimp only at hSw); go_simp; (try with_reducible rfl))
            (try simp only [Act.put, List.setIfInBounds_toArray, List.set_cons_zero, List.set_cons_succ])
            refine wpAnyH_take (i := 3) (oi := ?oZA3) (v := ?vZA3) ?hiZA3 (by kernel_rfl) (by kernel_rfl) (by kernel_rfl) (fun _ _ _ h => h) (Or.inl ⟨?wZA3, ?yZA3⟩) (by assumption) ?rZA3
            case hiZA3 => (simp only [List.getElem?_toArray, List.getElem?_cons_succ, List.getElem?_cons_zero]; try rfl)
            case wZA3 => rfl
            case yZA3 => (intro w hSw; (try dsimp only at hSw); go_simp; (try with_reducible rfl))
            (try simp only [Act.put, List.setIfInBounds_toArray, List.set_cons_zero, List.set_cons_succ])
            refine wpAnyH_take (i := 4) (oi := ?oZA4) (v := ?vZA4) ?hiZA4 (by kernel_rfl) (by kernel_rfl) (by kernel_rfl) (fun _ _ _ h => h) (Or.inl ⟨?wZA4, ?yZA4⟩) (by assumption) ?rZA4
            case hiZA4 => (simp only [List.getElem?_toArray, List.getElem?_cons_succ, List.getElem?_cons_zero]; try rfl)
            case wZA4 => rfl
            case yZA4 => (intro w hSw; (try dsimp only at hSw); go_simp; (try with_reducible rfl))
            (try simp only [Act.put, List.setIfInBounds_toArray, List.set_cons_zero, List.set_cons_succ])
            refine wpAnyH_take (i := 5) (oi := ?oZA5) (v := ?vZA5) ?hiZA5 (by kernel_rfl) (by kernel_rfl) (by kernel_rfl) (fun _ _ _ h => h) (Or.inl ⟨?wZA5, ?yZA5⟩) (by assumption) ?rZA5
            case hiZA5 => (simp only [List.getElem?_toArray, List.getElem?_cons_succ, List.getElem?_cons_zero]; try rfl)
            case wZA5 => rfl
            case yZA5 => (intro w hSw; (try dsimp only at hSw); go_simp; (try with_reducible rfl))
            (try simp only [Act.put, List.setIfInBounds_toArray, List.set_cons_zero, List.set_cons_succ])
            refine wpAnyH_take (i := 6) (oi := ?oZA6) (v := ?vZA6) ?hiZA6 (by kernel_rfl) (by kernel_rfl) (by kernel_rfl) (fun _ _ _ h => h) (Or.inl ⟨?wZA6, ?yZA6⟩) (by assumption) ?rZA6
            case hiZA6 => (simp only [List.getElem?_toArray, List.getElem?_cons_succ, List.getElem?_cons_zero]; try rfl)
            case wZA6 => rfl
            case yZA6 => (intro w hSw; (try dsimp only at hSw); go_simp; (try with_reducible rfl))
            (try simp only [Act.put, List.setIfInBounds_toArray, List.set_cons_zero, List.set_cons_succ])
            refine wpAnyH_take (i := 7) (oi := ?oZA7) (v := ?vZA7) ?hiZA7 (by kernel_rfl) (by kernel_rfl) (by kernel_rfl) (fun _ _ _ h => h) (Or.inl ⟨?wZA7, ?yZA7⟩) (by assumption) ?rZA7
            case hiZA7 => (simp only [List.getElem?_toArray, List.getElem?_cons_succ, List.getElem?_cons_zero]; try rfl)
            case wZA7 => rfl
            case yZA7 => (intro w hSw; (try dsimp only at hSw); go_simp; (try with_reducible rfl))
            (try simp only [Act.put, List.setIfInBounds_toArray, List.set_cons_zero, List.set_cons_succ])
            refine wpAnyH_take (i := 8) (oi := ?oZA8) (v := ?vZA8) ?hiZA8 (by kernel_rfl) (by kernel_rfl) (by kernel_rfl) (fun _ _ _ h => h) (Or.inl ⟨?wZA8, ?yZA8⟩) (by assumption) ?rZA8
            case hiZA8 => (simp only [List.getElem?_toArray, List.getElem?_cons_succ, List.getElem?_cons_zero]; try rfl)
            case wZA8 => rfl
            case yZA8 => (intro w hSw; (try dsimp only at hSw); go_simp; (try with_reducible rfl))
            (try simp only [Act.put, List.setIfInBounds_toArray, List.set_cons_zero, List.set_cons_succ])
            refine wpAnyH_take (i := 9) (oi := ?oZA9) (v := ?vZA9) ?hiZA9 (by kernel_rfl) (by kernel_rfl) (by kernel_rfl) (fun _ _ _ h => h) (Or.inl ⟨?wZA9, ?yZA9⟩) (by assumption) ?rZA9
            case hiZA9 => (simp only [List.getElem?_toArray, List.getElem?_cons_succ, List.getElem?_cons_zero]; try rfl)
            case wZA9 => rfl
            case yZA9 => (intro w hSw; (try dsimp only at hSw); go_simp; (try with_reducible rfl))
            (try simp only [Act.put, List.setIfInBounds_toArray, List.set_cons_zero, List.set_cons_succ])
            refine wpAnyH_take (i := 10) (oi := ?oZA10) (v := ?vZA10) ?hiZA10 (by kernel_rfl) (by kernel_rfl) (by kernel_rfl) (fun _ _ _ h => h) (Or.inl ⟨?wZA10, ?yZA10⟩) (by assumption) ?rZA10
            case hiZA10 => (simp only [List.getElem?_toArray, List.getElem?_cons_succ, List.getElem?_cons_zero]; try rfl)
            case wZA10 => rfl
            case yZA10 => (intro w hSw; (try dsimp only at hSw); go_simp; (try with_reducible rfl))
            (try simp only [Act.put, List.setIfInBounds_toArray, List.set_cons_zero, List.set_cons_succ])
            refine wpAnyH_take (i := 11) (oi := ?oZA11) (v := ?vZA11) ?hiZA11 (by kernel_rfl) (by kernel_rfl) (by kernel_rfl) (fun _ _ _ h => h) (Or.inl ⟨?wZA11, ?yZA11⟩) (by assumption) ?rZA11
            case hiZA11 => (simp only [List.getElem?_toArray, List.getElem?_cons_succ, List.getElem?_cons_zero]; try rfl)
            case wZA11 => rfl
            case yZA11 => (intro w hSw; (try dsimp only at hSw); go_simp; (try with_reducible rfl))
            (try simp only [Act.put, List.setIfInBounds_toArray, List.set_cons_zero, List.set_cons_succ])
            refine wpAnyH_take (i := 12) (oi := ?oZA12) (v := ?vZA12) ?hiZA12 (by kernel_rfl) (by kernel_rfl) (by kernel_rfl) (fun _ _ _ h => h) (Or.inl ⟨?wZA12, ?yZA12⟩) (by assumption) ?rZA12
            case hiZA12 => (simp only [List.getElem?_toArray, List.getElem?_cons_succ, List.getElem?_cons_zero]; try rfl)
            case wZA12 => rfl
            case yZA12 => (intro w hSw; (try dsimp only at hSw); go_simp; (try with_reducible rfl))
            (try simp only [Act.put, List.setIfInBounds_toArray, List.set_cons_zero, List.set_cons_succ])
            refine wpAnyH_take (i := 13) (oi := ?oZA13) (v := ?vZA13) ?hiZA13 (by kernel_rfl) (by kernel_rfl) (by kernel_rfl) (fun _ _ _ h => h) (Or.inl ⟨?wZA13, ?yZA13⟩) (by assumption) ?rZA13
            case hiZA13 => (simp only [List.getElem?_toArray, List.getElem?_cons_succ, List.getElem?_cons_zero]; try rfl)
            case wZA13 => rfl
            case yZA13 => (intro w hSw; (try dsimp only at hSw); go_simp; (try with_reducible rfl))
            (try simp only [Act.put, List.setIfInBounds_toArray, List.set_cons_zero, List.set_cons_succ])
            refine wpAnyH_take (i := 14) (oi := ?oZA14) (v := ?vZA14) ?hiZA14 (by kernel_rfl) (by kernel_rfl) (by kernel_rfl) (fun _ _ _ h => h) (Or.inl ⟨?wZA14, ?yZA14⟩) (by assumption) ?rZA14
            case hiZA14 => (simp only [List.getElem?_toArray, List.getElem?_cons_succ, List.getElem?_cons_zero]; try rfl)
            case wZA14 => rfl
            case yZA14 => (intro w hSw; (try dsimp only at hSw); go_simp; (try with_reducible rfl))
            (try simp only [Act.put, List.setIfInBounds_toArray, List.set_cons_zero, List.set_cons_succ])
            refine wpAnyH_take (i := 16) (oi := ?oZA16) (v := ?vZA16) ?hiZA16 (by kernel_rfl) (by kernel_rfl) (by kernel_rfl) (fun _ _ _ h => h) (Or.inl ⟨?wZA16, ?yZA16⟩) (by assumption) ?rZA16
            case hiZA16 => (simp only [List.getElem?_toArray, List.getElem?_cons_succ, List.getElem?_cons_zero]; try rfl)
            case wZA16 => rfl
            case yZA16 => (intro w hSw; (try dsimp only at hSw); go_simp; (try with_reducible rfl))
            (try simp only [Act.put, List.setIfInBounds_toArray, List.set_cons_zero, List.set_cons_succ])
            refine wpAnyH_take (i := 17) (oi := ?oZA17) (v := ?vZA17) ?hiZA17 (by kernel_rfl) (by kernel_rfl) (by kernel_rfl) (fun _ _ _ h => h) (Or.inl ⟨?wZA17, ?yZA17⟩) (by assumption) ?rZA17
            case hiZA17 => (simp only [List.getElem?_toArray, List.getElem?_cons_succ, List.getElem?_cons_zero]; try rfl)
            case wZA17 => rfl
            case yZA17 => (intro w hSw; (try dsimp only at hSw); go_simp; (try with_reducible rfl))
            (try simp only [Act.put, List.setIfInBounds_toArray, List.set_cons_zero, List.set_cons_succ])
            refine wpAnyH_take (i := 18) (oi := ?oZA18) (v := ?vZA18) ?hiZA18 (by kernel_rfl) (by kernel_rfl) (by kernel_rfl) (fun _ _ _ h => h) (Or.inl ⟨?wZA18, ?yZA18⟩) (by assumption) ?rZA18
            case hiZA18 => (simp only [List.getElem?_toArray, List.getElem?_cons_succ, List.getElem?_cons_zero]; try rfl)
            case wZA18 => rfl
            case yZA18 => (intro w hSw; (try dsimp only at hSw); go_simp; (try with_reducible rfl))
            (try simp only [Act.put, List.setIfInBounds_toArray, List.set_cons_zero, List.set_cons_succ])
            refine wpAnyH_take (i := 19) (oi := ?oZA19) (v := ?vZA19) ?hiZA19 (by kernel_rfl) (by kernel_rfl) (by kernel_rfl) (fun _ _ _ h => h) (Or.inl ⟨?wZA19, ?yZA19⟩) (by assumption) ?rZA19
            case hiZA19 => (simp only [List.getElem?_toArray, List.getElem?_cons_succ, List.getElem?_cons_zero]; try rfl)
            case wZA19 => rfl
            case yZA19 => (intro w hSw; (try dsimp only at hSw); go_simp; (try with_reducible rfl))
            (try simp only [Act.put, List.setIfInBounds_toArray, List.set_cons_zero, List.set_cons_succ])
            refine wpAnyH_ready (rs := [15]) (by kernel_rfl) (by simp) ?_
            refine AllReadyH.cons (o := ?oZA15) ?hiZA15 (fun K hK => ?_) AllReadyH.nil
            case hiZA15 => (simp only [List.getElem?_toArray, List.getElem?_cons_succ, List.getElem?_cons_zero]; try rfl)
            go_simp
            (go_at_call 24; refine (HAG.out _ K0.out).mono ?_; rintro e w' ⟨rfl, rfl⟩)
            go_wp2_with fail
            refine hK.out _ _ (HC.out _ K0.out) (fun hHeld => ?_)
            clear hK K
            (try simp only [Act.put, List.setIfInBounds_toArray, List.set_cons_zero, List.set_cons_succ])
            refine wpAnyH_take (i := 20) (oi := ?oZA20) (v := ?vZA20) ?hiZA20 (by kernel_rfl) (by kernel_rfl) (by kernel_rfl) (fun _ _ _ h => h) (Or.inl ⟨?wZA20, ?yZA20⟩) (by assumption) ?rZA20
            case hiZA20 => (simp only [List.getElem?_toArray, List.getElem?_cons_succ, List.getElem?_cons_zero]; try rfl)
            case wZA20 => rfl
            case yZA20 => (intro w hSw; (try dsimp only at hSw); go_simp; (try with_reducible rfl))
            (try simp only [Act.put, List.setIfInBounds_toArray, List.set_cons_zero, List.set_cons_succ])
            refine wpAnyH_take (i := 21) (oi := ?oZA21) (v := ?vZA21) ?hiZA21 (by kernel_rfl) (by kernel_rfl) (by kernel_rfl) (fun _ _ _ h => h) (Or.inl ⟨?wZA21, ?yZA21⟩) (by assumption) ?rZA21
            case hiZA21 => (simp only [List.getElem?_toArray, List.getElem?_cons_succ, List.getElem?_cons_zero]; try rfl)
            case wZA21 => rfl
            case yZA21 => (intro w hSw; (try dsimp only at hSw); go_simp; (try with_reducible rfl))
            (try simp only [Act.put, List.setIfInBounds_toArray, List.set_cons_zero, List.set_cons_succ])
            refine wpAnyH_take (i := 22) (oi := ?oZA22) (v := ?vZA22) ?hiZA22 (by kernel_rfl) (by kernel_rfl) (by kernel_rfl) (fun _ _ _ h => h) (Or.inl ⟨?wZA22, ?yZA22⟩) (by assumption) ?rZA22
            case hiZA22 => (simp only [List.getElem?_toArray, List.getElem?_cons_succ, List.getElem?_cons_zero]; try rfl)
            case wZA22 => rfl
            case yZA22 => (intro w hSw; (try dsimp only at hSw); go_simp; (try with_reducible rfl))
            (try simp only [Act.put, List.setIfInBounds_toArray, List.set_cons_zero, List.set_cons_succ])
            refine wpAnyH_take (i := 23) (oi := ?oZA23) (v := ?vZA23) ?hiZA23 (by kernel_rfl) (by kernel_rfl) (by kernel_rfl) (fun _ _ _ h => h) (Or.inl ⟨?wZA23, ?yZA23⟩) (by assumption) ?rZA23
            case hiZA23 => (simp only [List.getElem?_toArray, List.getElem?_cons_succ, List.getElem?_cons_zero]; try rfl)
            case wZA23 => rfl
            case yZA23 => (intro w hSw; (try dsimp only at hSw); go_simp; (try with_reducible rfl))
            (try simp only [Act.put, List.setIfInBounds_toArray, List.set_cons_zero, List.set_cons_succ])
            refine wpAnyH_take (i := 24) (oi := ?oZA24) (v := ?vZA24) ?hiZA24 (by kernel_rfl) (by kernel_rfl) (by kernel_rfl) (fun _ _ _ h => h) (Or.inl ⟨?wZA24, ?yZA24⟩) (by assumption) ?rZA24
            case hiZA24 => (simp only [List.getElem?_toArray, List.getElem?_cons_succ, List.getElem?_cons_zero]; try rfl)
            case wZA24 => rfl
            case yZA24 => (intro w hSw; (try dsimp only at hSw); go_simp; (try with_reducible rfl))
            (try simp only [Act.put, List.setIfInBounds_toArray, List.set_cons_zero, List.set_cons_succ])
            refine wpAnyH_take (i := 25) (oi := ?oZA25) (v := ?vZA25) ?hiZA25 (by kernel_rfl) (by kernel_rfl) (by kernel_rfl) (fun _ _ _ h => h) (Or.inl ⟨?wZA25, ?yZA25⟩) (by assumption) ?rZA25
            case hiZA25 => (simp only [List.getElem?_toArray, List.getElem?_cons_succ, List.getElem?_cons_zero]; try rfl)
            case wZA25 => rfl
            case yZA25 => (intro w hSw; (try dsimp only at hSw); go_simp; (try with_reducible rfl))
            (try simp only [Act.put, List.setIfInBounds_toArray, List.set_cons_zero, List.set_cons_succ])
            refine wpAnyH_take (i := 26) (oi := ?oZA26) (v := ?vZA26) ?hiZA26 (by kernel_rfl) (by kernel_rfl) (by kernel_rfl) (fun _ _ _ h => h) (Or.inl ⟨?wZA26, ?yZA26⟩) (by assumption) ?rZA26
            case hiZA26 => (simp only [List.getElem?_toArray, List.getElem?_cons_succ, List.getElem?_cons_zero]; try rfl)
            case wZA26 => rfl
            case yZA26 => (intro w hSw; (try dsimp only at hSw); go_simp; (try with_reducible rfl))
            (try simp only [Act.put, List.setIfInBounds_toArray, List.set_cons_zero, List.set_cons_succ])
            refine wpAnyH_take (i := 27) (oi := ?oZA27) (v := ?vZA27) ?hiZA27 (by kernel_rfl) (by kernel_rfl) (by kernel_rfl) (fun _ _ _ h => h) (Or.inl ⟨?wZA27, ?yZA27⟩) (by assumption) ?rZA27
            case hiZA27 => (simp only [List.getElem?_toArray, List.getElem?_cons_succ, List.getElem?_cons_zero]; try rfl)
            case wZA27 => rfl
            case yZA27 => (intro w hSw; (try dsimp only at hSw); go_simp; (try with_reducible rfl))
            (try simp only [Act.put, List.setIfInBounds_toArray, List.set_cons_zero, List.set_cons_succ])
            refine wpAnyH_ready (rs := [28]) (by kernel_rfl) (by simp) ?_
            refine AllReadyH.cons (o := ?oZA28) ?hiZA28 (fun K hK => ?_) AllReadyH.nil
            case hiZA28 => (simp only [List.getElem?_toArray, List.getElem?_cons_succ, List.getElem?_cons_zero]; try rfl)
            go_simp
            (go_at_call 25; refine (HHA.out _ K0.out).mono ?_; rintro e w' ⟨rfl, rfl⟩)
            go_wp2_with fail
            refine hK.out _ _ (HC.out _ K0.out) (fun hHeld => ?_)
            clear hK K
            (try simp only [Act.put, List.setIfInBounds_toArray, List.set_cons_zero, List.set_cons_succ])
            refine wpAnyH_take (i := 29) (oi := ?oZA29) (v := ?vZA29) ?hiZA29 (by kernel_rfl) (by kernel_rfl) (by kernel_rfl) (fun _ _ _ h => h) (Or.inl ⟨?wZA29, ?yZA29⟩) (by assumption) ?rZA29
            case hiZA29 => (simp only [List.getElem?_toArray, List.getElem?_cons_succ, List.getElem?_cons_zero]; try rfl)
            case wZA29 => rfl
            case yZA29 => (intro w hSw; (try dsimp only at hSw); go_simp; (try with_reducible rfl))
            (try simp only [Act.put, List.setIfInBounds_toArray, List.set_cons_zero, List.set_cons_succ])
            refine wpAnyH_take (i := 30) (oi := ?oZA30) (v := ?vZA30) ?hiZA30 (by kernel_rfl) (by kernel_rfl) (by kernel_rfl) (fun _ _ _ h => h) (Or.inl ⟨?wZA30, ?yZA30⟩) (by assumption) ?rZA30
            case hiZA30 => (simp only [List.getElem?_toArray, List.getElem?_cons_succ, List.getElem?_cons_zero]; try rfl)
            case wZA30 => rfl
            case yZA30 => (intro w hSw; (try dsimp only at hSw); go_simp; (try with_reducible rfl))
            (try simp only [Act.put, List.setIfInBounds_toArray, List.set_cons_zero, List.set_cons_succ])
            refine wpAnyH_done (by kernel_rfl) ?_ _
            refine NoPanic.normal ?_
            go_wp2_with fail
            go_roundw
            case rel => exact ⟨j + 1, by omega, by go_num, HK.out.trans' K0.out⟩
            case measure => simp [intOf]; omega
          · have hlt2 : ¬ (j : Int) < n := by omega
            have hlt3 : decide (j < n) = false := by simp [hlt]
            have h99 : (99 : Int) ∉ K := fun e => by have := HRG.out 99 e; omega
            have hag := tp_age HT6.out 99 (by omega)
            have hha := tp_has HT6.out 99 (by omega)
            simp only [h99, if_false, decide_false] at hag hha
            have HAG := Lib.hid hag; have HHA := Lib.hid hha
            clear hag hha h99
            go_wp2_with fail
            refine HAG.out.mono ?_
            rintro e w' ⟨rfl, hw⟩
            obtain rfl : wr = w' := hw.symm
            go_wp2_with fail
            refine HHA.out.mono ?_
            rintro e w' ⟨rfl, hw⟩
            obtain rfl : wr = w' := hw.symm
            go_wp2_with fail
            go_ret
            exact ⟨rfl, HRW6.out.kp⟩
      · have hn2 : ¬ (i : Int) < 60 := of_decide_eq_false hd2
        have hn1 : (i : Int) < len1 := of_decide_eq_true hd1
        go_wp2_with fail
        refine HALL.out.mono ?_
        rintro e w5 ⟨v5, rfl, hr5, hk5⟩
        have HR5 := Lib.hid hr5; have HT5 := Lib.hid (HTP.out.keep hk5 (fun f => f) (fun f => f)); have HRW5 := Lib.hid (HRW.out.keepN hk5)
        obtain ⟨lo, lc, rfl, hlc, hlcm, _⟩ := hr5.slice HN.out
        clear hr5 hk5
        (try clear hn1)
        (try clear hn2)
        (try clear hd1)
        (try clear hd2)
        go_wp2_with fail
        go_loopw [17] (fun jv wr => ∃ j : Nat, j ≤ n ∧ jv = .int .i64 j ∧ Keep NoF w5 wr) (fun jv _ => n - (intOf jv).toNat)
        case atStart => exact ⟨0, Nat.zero_le _, rfl, Keep.refl _ _⟩
        case round =>
          obtain ⟨j, hj, rfl, hk⟩ := hrel
          have HK := Lib.hid hk
          clear hk
          have HT6 := Lib.hid (HT5.out.keep HK.out (fun f => f) (fun f => f)); have HRW6 := Lib.hid (HRW5.out.keepN HK.out); have HR6 := Lib.hid (HR5.out.keep HK.out (fun _ _ f => f))
          by_cases hlt : j < n
          · have hlt2 : (j : Int) < n := by omega
            have hil3 : decide (n ≤ j) = false := by simp; omega
            have hjK : j < K.length := by rw [HN.out]; exact hlt
            obtain ⟨y, hy⟩ : ∃ y, K[j] = y := ⟨_, rfl⟩
            have hyK : y ∈ K := by rw [← hy]; exact List.getElem_mem _
            have hyb := HRG.out y hyK
            obtain ⟨fy, hfy⟩ : ∃ fy, f y = fy := ⟨_, rfl⟩
            obtain ⟨co, cr, e1, _, _, hr1⟩ := HRW6.out.rk.slice HN.out
            injection e1 with e2 e3 e4
            subst e2 e4
            obtain ⟨g1, rfl, d1⟩ := row_at hr1 HN.out j hjK
            obtain ⟨co2, cr2, e1, _, _, hr2⟩ := HR6.out.slice HN.out
            injection e1 with e2 e3 e4
            subst e2 e4
            obtain ⟨g2, rfl, d2⟩ := row_at hr2 HN.out j hjK
            obtain ⟨co3, cr3, e1, _, _, hr3⟩ := HRW6.out.ra.slice HNA.out
            injection e1 with e2 e3 e4
            subst e2 e4
            obtain ⟨g3, rfl, d3⟩ := row_at hr3 HNA.out j (by rw [HNA.out]; exact hlt)
            have hAj : A[j]'(by rw [HNA.out]; exact hlt) = fy := by rw [← hfy, ← hy]; simp only [HAF.out, List.getElem_map]
            rw [hy] at d1 d2
            rw [hAj] at d3
            have hag := fun W (hW : Keep NoF wr W) => tp_age (HT6.out.keep hW (fun f => f) (fun f => f)) y (by omega)
            have hha := fun W (hW : Keep NoF wr W) => tp_has (HT6.out.keep hW (fun f => f) (fun f => f)) y (by omega)
            simp only [hyK, if_true, hfy, decide_true] at hag hha
            have HAG := Lib.hid hag; have HHA := Lib.hid hha
            have D1 := Lib.hid d1; have D2 := Lib.hid d2; have D3 := Lib.hid d3
            have HC : Hid (∀ W, Keep NoF wr W → W.cell? ⟨g2, j, none⟩ = some (.int .i64 y) ∧ W.cell? ⟨g1, j, none⟩ = some (.int .i64 y) ∧ W.cell? ⟨g3, j, none⟩ = some (.int .i64 fy)) := Lib.hid fun W hW => ⟨hW.cell' D2.out (fun f => f), hW.cell' D1.out (fun f => f), hW.cell' D3.out (fun f => f)⟩
            clear hr1 hr2 hr3 hAj hag hha hy hyK hfy hyb d1 d2 d3 hjK
            have K0 := Lib.hid ((Keep.refl NoF wr).drew)
            go_wp2_with fail
            refine wp_region_noPanic ?_
            refine wp_region_held_drew (S := (fun W' : World => W'.cell? ⟨g2, j, none⟩ = some (.int .i64 y) ∧ W'.cell? ⟨g1, j, none⟩ = some (.int .i64 y) ∧ W'.cell? ⟨g3, j, none⟩ = some (.int .i64 fy))) (by kernel_rfl) (HC.out _ K0.out) (fun hHeld => ?_)
            refine wpAnyH_take (i := 0) (oi := ?oZB0) (v := ?vZB0) ?hiZB0 (by kernel_rfl) (by kernel_rfl) (by kernel_rfl) (fun _ _ _ h => h) (Or.inl ⟨?wZB0, ?yZB0⟩) (by assumption) ?rZB0
            case hiZB0 => (simp only [List.getElem?_toArray, List.getElem?_cons_zero]; try rfl)
            case wZB0 => rfl
            case yZB0 => (intro w hSw; (try dsimp only at hSw); go_simp; (try with_reducible rfl))
            (try simp only [Act.put, List.setIfInBounds_toArray, List.set_cons_zero, List.set_cons_succ])
            refine wpAnyH_take (i := 1) (oi := ?oZB1) (v := ?vZB1) ?hiZB1 (by kernel_rfl) (by kernel_rfl) (by kernel_rfl) (fun _ _ _ h => h) (Or.inl ⟨?wZB1, ?yZB1⟩) (by assumption) ?rZB1
            case hiZB1 => (simp only [List.getElem?_toArray, List.getElem?_cons_succ, List.getElem?_cons_zero]; try rfl)
            case wZB1 => rfl
            case yZB1 => (intro w hSw; (try dsimp only at hSw); go_simp; (try with_reducible rfl))
            (try simp only [Act.put, List.setIfInBounds_toArray, List.set_cons_zero, List.set_cons_succ])
            refine wpAnyH_take (i := 2) (oi := ?oZB2) (v := ?vZB2) ?hiZB2 (by kernel_rfl) (by kernel_rfl) (by kernel_rfl) (fun _ _ _ h => h) (Or.inl ⟨?wZB2, ?yZB2⟩) (by assumption) ?rZB2
            case hiZB2 => (simp only [List.getElem?_toArray, List.getElem?_cons_succ, List.getElem?_cons_zero]; try rfl)
            case wZB2 => rfl
            case yZB2 => (intro w hSw; (try dsimp only at hSw); go_simp; (try with_reducible rfl))
            (try simp only [Act.put, List.setIfInBounds_toArray, List.set_cons_zero, List.set_cons_succ])
            refine wpAnyH_take (i := 3) (oi := ?oZB3) (v := ?vZB3) ?hiZB3 (by kernel_rfl) (by kernel_rfl) (by kernel_rfl) (fun _ _ _ h => h) (Or.inl ⟨?wZB3, ?yZB3⟩) (by assumption) ?rZB3
            case hiZB3 => (simp only [List.getElem?_toArray, List.getElem?_cons_succ, List.getElem?_cons_zero]; try rfl)
            case wZB3 => rfl
            case yZB3 => (intro w hSw; (try dsimp only at hSw); go_simp; (try with_reducible rfl))
            (try simp only [Act.put, List.setIfInBounds_toArray, List.set_cons_zero, List.set_cons_succ])
            refine wpAnyH_take (i := 4) (oi := ?oZB4) (v := ?vZB4) ?hiZB4 (by kernel_rfl) (by kernel_rfl) (by kernel_rfl) (fun _ _ _ h => h) (Or.inl ⟨?wZB4, ?yZB4⟩) (by assumption) ?rZB4
            case hiZB4 => (simp only [List.getElem?_toArray, List.getElem?_cons_succ, List.getElem?_cons_zero]; try rfl)
            case wZB4 => rfl
            case yZB4 => (intro w hSw; (try dsimp only at hSw); go_simp; (try with_reducible rfl))
            (try simp only [Act.put, List.setIfInBounds_toArray, List.set_cons_zero, List.set_cons_succ])
            refine wpAnyH_take (i := 5) (oi := ?oZB5) (v := ?vZB5) ?hiZB5 (by kernel_rfl) (by kernel_rfl) (by kernel_rfl) (fun _ _ _ h => h) (Or.inl ⟨?wZB5, ?yZB5⟩) (by assumption) ?rZB5
            case hiZB5 => (simp only [List.getElem?_toArray, List.getElem?_cons_succ, List.getElem?_cons_zero]; try rfl)
            case wZB5 => rfl
            case yZB5 => (intro w hSw; (try dsimp only at hSw); go_simp; (try with_reducible rfl))
            (try simp only [Act.put, List.setIfInBounds_toArray, List.set_cons_zero, List.set_cons_succ])
            refine wpAnyH_take (i := 6) (oi := ?oZB6) (v := ?vZB6) ?hiZB6 (by kernel_rfl) (by kernel_rfl) (by kernel_rfl) (fun _ _ _ h => h) (Or.inl ⟨?wZB6, ?yZB6⟩) (by assumption) ?rZB6
            case hiZB6 => (simp only [List.getElem?_toArray, List.getElem?_cons_succ, List.getElem?_cons_zero]; try rfl)
            case wZB6 => rfl
            case yZB6 => (intro w hSw; (try dsimp only at hSw); go_simp; (try with_reducible rfl))
            (try simp only [Act.put, List.setIfInBounds_toArray, List.set_cons_zero, List.set_cons_succ])
            refine wpAnyH_take (i := 7) (oi := ?oZB7) (v := ?vZB7) ?hiZB7 (by kernel_rfl) (by kernel_rfl) (by kernel_rfl) (fun _ _ _ h => h) (Or.inl ⟨?wZB7, ?yZB7⟩) (by assumption) ?rZB7
            case hiZB7 => (simp only [List.getElem?_toArray, List.getElem?_cons_succ, List.getElem?_cons_zero]; try rfl)
            case wZB7 => rfl
            case yZB7 => (intro w hSw; (try dsimp only at hSw); go_simp; (try with_reducible rfl))
            (try simp only [Act.put, List.setIfInBounds_toArray, List.set_cons_zero, List.set_cons_succ])
            refine wpAnyH_take (i := 8) (oi := ?oZB8) (v := ?vZB8) ?hiZB8 (by kernel_rfl) (by kernel_rfl) (by kernel_rfl) (fun _ _ _ h => h) (Or.inl ⟨?wZB8, ?yZB8⟩) (by assumption) ?rZB8
            case hiZB8 => (simp only [List.getElem?_toArray, List.getElem?_cons_succ, List.getElem?_cons_zero]; try rfl)
            case wZB8 => rfl
            case yZB8 => (intro w hSw; (try dsimp only at hSw); go_simp; (try with_reducible rfl))
            (try simp only [Act.put, List.setIfInBounds_toArray, List.set_cons_zero, List.set_cons_succ])
            refine wpAnyH_take (i := 9) (oi := ?oZB9) (v := ?vZB9) ?hiZB9 (by kernel_rfl) (by kernel_rfl) (by kernel_rfl) (fun _ _ _ h => h) (Or.inl ⟨?wZB9, ?yZB9⟩) (by assumption) ?rZB9
            case hiZB9 => (simp only [List.getElem?_toArray, List.getElem?_cons_succ, List.getElem?_cons_zero]; try rfl)
            case wZB9 => rfl
            case yZB9 => (intro w hSw; (try dsimp only at hSw); go_simp; (try with_reducible rfl))
            (try simp only [Act.put, List.setIfInBounds_toArray, List.set_cons_zero, List.set_cons_succ])
            refine wpAnyH_take (i := 10) (oi := ?oZB10) (v := ?vZB10) ?hiZB10 (by kernel_rfl) (by kernel_rfl) (by kernel_rfl) (fun _ _ _ h => h) (Or.inl ⟨?wZB10, ?yZB10⟩) (by assumption) ?rZB10
            case hiZB10 => (simp only [List.getElem?_toArray, List.getElem?_cons_succ, List.getElem?_cons_zero]; try rfl)
            case wZB10 => rfl
            case yZB10 => (intro w hSw; (try dsimp only at hSw); go_simp; (try with_reducible rfl))
            (try simp only [Act.put, List.setIfInBounds_toArray, List.set_cons_zero, List.set_cons_succ])
            refine wpAnyH_take (i := 11) (oi := ?oZB11) (v := ?vZB11) ?hiZB11 (by kernel_rfl) (by kernel_rfl) (by kernel_rfl) (fun _ _ _ h => h) (Or.inl ⟨?wZB11, ?yZB11⟩) (by assumption) ?rZB11
            case hiZB11 => (simp only [List.getElem?_toArray, List.getElem?_cons_succ, List.getElem?_cons_zero]; try rfl)
            case wZB11 => rfl
            case yZB11 => (intro w hSw; (try dsimp only at hSw); go_simp; (try with_reducible rfl))
            (try simp only [Act.put, List.setIfInBounds_toArray, List.set_cons_zero, List.set_cons_succ])
            refine wpAnyH_take (i := 12) (oi := ?oZB12) (v := ?vZB12) ?hiZB12 (by kernel_rfl) (by kernel_rfl) (by kernel_rfl) (fun _ _ _ h => h) (Or.inl ⟨?wZB12, ?yZB12⟩) (by assumption) ?rZB12
            case hiZB12 => (simp only [List.getElem?_toArray, List.getElem?_cons_succ, List.getElem?_cons_zero]; try rfl)
            case wZB12 => rfl
            case yZB12 => (intro w hSw; (try dsimp only at hSw); go_simp; (try with_reducible rfl))
            (try simp only [Act.put, List.setIfInBounds_toArray, List.set_cons_zero, List.set_cons_succ])
            refine wpAnyH_take (i := 13) (oi := ?oZB13) (v := ?vZB13) ?hiZB13 (by kernel_rfl) (by kernel_rfl) (by kernel_rfl) (fun _ _ _ h => h) (Or.inl ⟨?wZB13, ?yZB13⟩) (by assumption) ?rZB13
            case hiZB13 => (simp only [List.getElem?_toArray, List.getElem?_cons_succ, List.getElem?_cons_zero]; try rfl)
            case wZB13 => rfl
            case yZB13 => (intro w hSw; (try dsimp only at hSw); go_simp; (try with_reducible rfl))
            (try simp only [Act.put, List.setIfInBounds_toArray, List.set_cons_zero, List.set_cons_succ])
            refine wpAnyH_take (i := 14) (oi := ?oZB14) (v := ?vZB14) ?hiZB14 (by kernel_rfl) (by kernel_rfl) (by kernel_rfl) (fun _ _ _ h => h) (Or.inl ⟨?wZB14, ?yZB14⟩) (by assumption) ?rZB14
            case hiZB14 => (simp only [List.getElem?_toArray, List.getElem?_cons_succ, List.getElem?_cons_zero]; try rfl)
            case wZB14 => rfl
            case yZB14 => (intro w hSw; (try dsimp only at hSw); go_simp; (try with_reducible rfl))
            (try simp only [Act.put, List.setIfInBounds_toArray, List.set_cons_zero, List.set_cons_succ])
            refine wpAnyH_take (i := 16) (oi := ?oZB16) (v := ?vZB16) ?hiZB16 (by kernel_rfl) (by kernel_rfl) (by kernel_rfl) (fun _ _ _ h => h) (Or.inl ⟨?wZB16, ?yZB16⟩) (by assumption) ?rZB16
            case hiZB16 => (simp only [List.getElem?_toArray, List.getElem?_cons_succ, List.getElem?_cons_zero]; try rfl)
            case wZB16 => rfl
            case yZB16 => (intro w hSw; (try dsimp only at hSw); go_simp; (try with_reducible rfl))
            (try simp only [Act.put, List.setIfInBounds_toArray, List.set_cons_zero, List.set_cons_succ])
            refine wpAnyH_take (i := 17) (oi := ?oZB17) (v := ?vZB17) ?hiZB17 (by kernel_rfl) (by kernel_rfl) (by kernel_rfl) (fun _ _ _ h => h) (Or.inl ⟨?wZB17, ?yZB17⟩) (by assumption) ?rZB17
            case hiZB17 => (simp only [List.getElem?_toArray, List.getElem?_cons_succ, List.getElem?_cons_zero]; try rfl)
            case wZB17 => rfl
            case yZB17 => (intro w hSw; (try dsimp only at hSw); go_simp; (try with_reducible rfl))
            (try simp only [Act.put, List.setIfInBounds_toArray, List.set_cons_zero, List.set_cons_succ])
            refine wpAnyH_take (i := 18) (oi := ?oZB18) (v := ?vZB18) ?hiZB18 (by kernel_rfl) (by kernel_rfl) (by kernel_rfl) (fun _ _ _ h => h) (Or.inl ⟨?wZB18, ?yZB18⟩) (by assumption) ?rZB18
            case hiZB18 => (simp only [List.getElem?_toArray, List.getElem?_cons_succ, List.getElem?_cons_zero]; try rfl)
            case wZB18 => rfl
            case yZB18 => (intro w hSw; (try dsimp only at hSw); go_simp; (try with_reducible rfl))
            (try simp only [Act.put, List.setIfInBounds_toArray, List.set_cons_zero, List.set_cons_succ])
            refine wpAnyH_take (i := 19) (oi := ?oZB19) (v := ?vZB19) ?hiZB19 (by kernel_rfl) (by kernel_rfl) (by kernel_rfl) (fun _ _ _ h => h) (Or.inl ⟨?wZB19, ?yZB19⟩) (by assumption) ?rZB19
            case hiZB19 => (simp only [List.getElem?_toArray, List.getElem?_cons_succ, List.getElem?_cons_zero]; try rfl)
            case wZB19 => rfl
            case yZB19 => (intro w hSw; (try dsimp only at hSw); go_simp; (try with_reducible rfl))
            (try simp only [Act.put, List.setIfInBounds_toArray, List.set_cons_zero, List.set_cons_succ])
            refine wpAnyH_ready (rs := [15]) (by kernel_rfl) (by simp) ?_
            refine AllReadyH.cons (o := ?oZB15) ?hiZB15 (fun K hK => ?_) AllReadyH.nil
            case hiZB15 => (simp only [List.getElem?_toArray, List.getElem?_cons_succ, List.getElem?_cons_zero]; try rfl)
            go_simp
            (go_at_call 24; refine (HAG.out _ K0.out).mono ?_; rintro e w' ⟨rfl, rfl⟩)
            go_wp2_with fail
            refine hK.out _ _ (HC.out _ K0.out) (fun hHeld => ?_)
            clear hK K
            (try simp only [Act.put, List.setIfInBounds_toArray, List.set_cons_zero, List.set_cons_succ])
            refine wpAnyH_take (i := 20) (oi := ?oZB20) (v := ?vZB20) ?hiZB20 (by kernel_rfl) (by kernel_rfl) (by kernel_rfl) (fun _ _ _ h => h) (Or.inl ⟨?wZB20, ?yZB20⟩) (by assumption) ?rZB20
            case hiZB20 => (simp only [List.getElem?_toArray, List.getElem?_cons_succ, List.getElem?_cons_zero]; try rfl)
            case wZB20 => rfl
            case yZB20 => (intro w hSw; (try dsimp only at hSw); go_simp; (try with_reducible rfl))
            (try simp only [Act.put, List.setIfInBounds_toArray, List.set_cons_zero, List.set_cons_succ])
            refine wpAnyH_take (i := 21) (oi := ?oZB21) (v := ?vZB21) ?hiZB21 (by kernel_rfl) (by kernel_rfl) (by kernel_rfl) (fun _ _ _ h => h) (Or.inl ⟨?wZB21, ?yZB21⟩) (by assumption) ?rZB21
            case hiZB21 => (simp only [List.getElem?_toArray, List.getElem?_cons_succ, List.getElem?_cons_zero]; try rfl)
            case wZB21 => rfl
            case yZB21 => (intro w hSw; (try dsimp only at hSw); go_simp; (try with_reducible rfl))
            (try simp only [Act.put, List.setIfInBounds_toArray, List.set_cons_zero, List.set_cons_succ])
            refine wpAnyH_take (i := 22) (oi := ?oZB22) (v := ?vZB22) ?hiZB22 (by kernel_rfl) (by kernel_rfl) (by kernel_rfl) (fun _ _ _ h => h) (Or.inl ⟨?wZB22, ?yZB22⟩) (by assumption) ?rZB22
            case hiZB22 => (simp only [List.getElem?_toArray, List.getElem?_cons_succ, List.getElem?_cons_zero]; try rfl)
            case wZB22 => rfl
            case yZB22 => (intro w hSw; (try dsimp only at hSw); go_simp; (try with_reducible rfl))
            (try simp only [Act.put, List.setIfInBounds_toArray, List.set_cons_zero, List.set_cons_succ])
            refine wpAnyH_take (i := 23) (oi := ?oZB23) (v := ?vZB23) ?hiZB23 (by kernel_rfl) (by kernel_rfl) (by kernel_rfl) (fun _ _ _ h => h) (Or.inl ⟨?wZB23, ?yZB23⟩) (by assumption) ?rZB23
            case hiZB23 => (simp only [List.getElem?_toArray, List.getElem?_cons_succ, List.getElem?_cons_zero]; try rfl)
            case wZB23 => rfl
            case yZB23 => (intro w hSw; (try dsimp only at hSw); go_simp; (try with_reducible rfl))
            (try simp only [Act.put, List.setIfInBounds_toArray, List.set_cons_zero, List.set_cons_succ])
            refine wpAnyH_take (i := 24) (oi := ?oZB24) (v := ?vZB24) ?hiZB24 (by kernel_rfl) (by kernel_rfl) (by kernel_rfl) (fun _ _ _ h => h) (Or.inl ⟨?wZB24, ?yZB24⟩) (by assumption) ?rZB24
            case hiZB24 => (simp only [List.getElem?_toArray, List.getElem?_cons_succ, List.getElem?_cons_zero]; try rfl)
            case wZB24 => rfl
            case yZB24 => (intro w hSw; (try dsimp only at hSw); go_simp; (try with_reducible rfl))
            (try simp only [Act.put, List.setIfInBounds_toArray, List.set_cons_zero, List.set_cons_succ])
            refine wpAnyH_take (i := 25) (oi := ?oZB25) (v := ?vZB25) ?hiZB25 (by kernel_rfl) (by kernel_rfl) (by kernel_rfl) (fun _ _ _ h => h) (Or.inl ⟨?wZB25, ?yZB25⟩) (by assumption) ?rZB25
            case hiZB25 => (simp only [List.getElem?_toArray, List.getElem?_cons_succ, List.getElem?_cons_zero]; try rfl)
            case wZB25 => rfl
            case yZB25 => (intro w hSw; (try dsimp only at hSw); go_simp; (try with_reducible rfl))
            (try simp only [Act.put, List.setIfInBounds_toArray, List.set_cons_zero, List.set_cons_succ])
            refine wpAnyH_take (i := 26) (oi := ?oZB26) (v := ?vZB26) ?hiZB26 (by kernel_rfl) (by kernel_rfl) (by kernel_rfl) (fun _ _ _ h => h) (Or.inl ⟨?wZB26, ?yZB26⟩) (by assumption) ?rZB26
            case hiZB26 => (simp only [List.getElem?_toArray, List.getElem?_cons_succ, List.getElem?_cons_zero]; try rfl)
            case wZB26 => rfl
            case yZB26 => (intro w hSw; (try dsimp only at hSw); go_simp; (try with_reducible rfl))
            (try simp only [Act.put, List.setIfInBounds_toArray, List.set_cons_zero, List.set_cons_succ])
            refine wpAnyH_take (i := 27) (oi := ?oZB27) (v := ?vZB27) ?hiZB27 (by kernel_rfl) (by kernel_rfl) (by kernel_rfl) (fun _ _ _ h => h) (Or.inl ⟨?wZB27, ?yZB27⟩) (by assumption) ?rZB27
            case hiZB27 => (simp only [List.getElem?_toArray, List.getElem?_cons_succ, List.getElem?_cons_zero]; try rfl)
            case wZB27 => rfl
            case yZB27 => (intro w hSw; (try dsimp only at hSw); go_simp; (try with_reducible rfl))
            (try simp only [Act.put, List.setIfInBounds_toArray, List.set_cons_zero, List.set_cons_succ])
            refine wpAnyH_ready (rs := [28]) (by kernel_rfl) (by simp) ?_
            refine AllReadyH.cons (o := ?oZB28) ?hiZB28 (fun K hK => ?_) AllReadyH.nil
            case hiZB28 => (simp only [List.getElem?_toArray, List.getElem?_cons_succ, List.getElem?_cons_zero]; try rfl)
            go_simp
            (go_at_call 25; refine (HHA.out _ K0.out).mono ?_; rintro e w' ⟨rfl, rfl⟩)
            go_wp2_with fail
            refine hK.out _ _ (HC.out _ K0.out) (fun hHeld => ?_)
            clear hK K
            (try simp only [Act.put, List.setIfInBounds_toArray, List.set_cons_zero, List.set_cons_succ])
            refine wpAnyH_take (i := 29) (oi := ?oZB29) (v := ?vZB29) ?hiZB29 (by kernel_rfl) (by kernel_rfl) (by kernel_rfl) (fun _ _ _ h => h) (Or.inl ⟨?wZB29, ?yZB29⟩) (by assumption) ?rZB29
            case hiZB29 => (simp only [List.getElem?_toArray, List.getElem?_cons_succ, List.getElem?_cons_zero]; try rfl)
            case wZB29 => rfl
            case yZB29 => (intro w hSw; (try dsimp only at hSw); go_simp; (try with_reducible rfl))
            (try simp only [Act.put, List.setIfInBounds_toArray, List.set_cons_zero, List.set_cons_succ])
            refine wpAnyH_take (i := 30) (oi := ?oZB30) (v := ?vZB30) ?hiZB30 (by kernel_rfl) (by kernel_rfl) (by kernel_rfl) (fun _ _ _ h => h) (Or.inl ⟨?wZB30, ?yZB30⟩) (by assumption) ?rZB30
            case hiZB30 => (simp only [List.getElem?_toArray, List.getElem?_cons_succ, List.getElem?_cons_zero]; try rfl)
            case wZB30 => rfl
            case yZB30 => (intro w hSw; (try dsimp only at hSw); go_simp; (try with_reducible rfl))
            (try simp only [Act.put, List.setIfInBounds_toArray, List.set_cons_zero, List.set_cons_succ])
            refine wpAnyH_done (by kernel_rfl) ?_ _
            refine NoPanic.normal ?_
            go_wp2_with fail
            go_roundw
            case rel => exact ⟨j + 1, by omega, by go_num, HK.out.trans' K0.out⟩
            case measure => simp [intOf]; omega
          · have hlt2 : ¬ (j : Int) < n := by omega
            have hlt3 : decide (j < n) = false := by simp [hlt]
            have h99 : (99 : Int) ∉ K := fun e => by have := HRG.out 99 e; omega
            have hag := tp_age HT6.out 99 (by omega)
            have hha := tp_has HT6.out 99 (by omega)
            simp only [h99, if_false, decide_false] at hag hha
            have HAG := Lib.hid hag; have HHA := Lib.hid hha
            clear hag hha h99
            go_wp2_with fail
            refine HAG.out.mono ?_
            rintro e w' ⟨rfl, hw⟩
            obtain rfl : wr = w' := hw.symm
            go_wp2_with fail
            refine HHA.out.mono ?_
            rintro e w' ⟨rfl, hw⟩
            obtain rfl : wr = w' := hw.symm
            go_wp2_with fail
            go_ret
            exact ⟨rfl, HRW6.out.kp⟩

set_option linter.unusedVariables false
set_option maxRecDepth 100000 in
theorem lifted (os : Os) (started : os.Started) (H : Type) (enc : TypeId × Value → H) :
    ReturnsInHanded {} Try.checked os 4 .any (Rows.timerAllSpec.pre6 enc Try.prog Try.f4 Rows.timerAllRow.domain false) (Rows.timerAllSpec.post enc Try.prog Try.f4 false true false false) := by
  refine returnsInHanded_of_change (C := Try.checked) own started (by kernel_rfl) Try.func4
    (ChangeSpec.witness6 (enc := enc) (C := Try.checked) false ⟨#[], #[.int .i64 0, .slice none 0 0], []⟩ 8 (by kernel_rfl) (by kernel_rfl) (by kernel_rfl) (by kernel_rfl)) ?_
  intro W base args ds gs before hval0 hW hcnd _
  have hval : ∀ (j : Nat) t v, Try.f4.params[j]? = some t → args[j]? = some v → Value.okWide Try.prog W .any base t v := hval0
  have hW' := hW
  obtain ⟨p, q, hA0, hV, rfl, hfz, hnd⟩ := hW
  have hA : DataW.TrodAll enc Try.prog W 0 (fun _ => true) true Try.f4.params.toList args.toList ds p := hA0
  rw [Try.params4] at hA hval
  obtain ⟨v0, vs0, d0, ds0, p0, q0, hargs, rfl, rfl, h0, r0⟩ := trodAll_cons hA
  obtain ⟨v1, vs1, d1, ds1, p1, q1, rfl, rfl, rfl, h1, r1⟩ := trodAll_cons r0
  obtain ⟨rfl, rfl, rfl⟩ := trodAll_nil r1
  obtain rfl : args = #[v0, v1] := by cases args; simp_all
  obtain ⟨rfl, rfl⟩ := trodVars_none hV
  obtain ⟨a0, rfl, rfl, rfl, w0⟩ := open_int Try.underlying3 (hval 0 3 v0 rfl rfl) h0
  obtain ⟨a1, len1, cap1, rfl⟩ := okWide_slice Try.underlying32 (hval 1 32 v1 rfl rfl)
  have k1 := h1
  have lt1 : ∀ x ∈ p1, x.block < W.heap.size := by obtain ⟨m, hm⟩ := k1; exact DataW.trod_lt m _ _ _ hm
  obtain ⟨z1, w1⟩ := open_arg1 W base h1
  clear hA0 hval0
  refine (walk W a0 w0 a1 len1 cap1 z1 w1).mono fun e W' ⟨he, hk⟩ => ?_
  subst he
  have bel := Keep.below hk
  exact ⟨_, rfl, _, _, _, [], _, [], hW', trodAll_mk1 (shut_bool Try.underlying4 _), (trodAll_cons_mk (shut_int Try.underlying3 w0) (trodAll_cons_mk (Below.trod laidOut (by kernel_rfl) (of_decide_eq_true (by kernel_rfl)) k1 bel lt1) trodAll_mk0)), rfl, bel.frame _, fun h => by cases h⟩

theorem over : Rows.timerAllRow.holds Try.pinned (OpenSpec.ofChange Rows.timerAllSpec) :=
  OpenClaim.holds_of_wide 4 Try.f4 rfl rfl rfl rfl rfl rfl rfl ⟨rfl, rfl, rfl, rfl, rfl⟩ rfl rfl rfl rfl rfl (by kernel_rfl) Try.func4 (by kernel_rfl)
    (of_decide_eq_true (by kernel_rfl)) (by unfold Func.isWrapper; rw [if_neg (of_decide_eq_false (by kernel_rfl))]; exact ⟨rfl, rfl⟩)
    (fun os started H enc _ => lifted os started H enc)

/-- The statement. -/
theorem proved : Rows.TimerAllSaid := over
#print axioms proved
end Go.Proofs.Ytidpfkehmokdfaa.timerAll
