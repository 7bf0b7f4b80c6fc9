/- A slice of values of a kind that came in, and the laws' own helpers over such a value: bytes, puts, one, Cut. -/
import Derived.Test.YtdipknkajmoldaaRefIn2
import Derived.Test.YtdipknkajmoldaaRefPut
import Derived.Test.YtdipknkajmoldaaRound
import Derived.Test.YtdipknkajmoldaaRefSum
import Derived.Deep.Slices
import Derived.Deep.Strs
open Go Go.RowKit
namespace Go.Proofs.Ytdipknkajmoldaa

structure OpV where
  kind : Int
  n : Int
  s : ByteArray
instance : Inhabited OpV := ⟨⟨0, 0, ByteArray.empty⟩⟩
def opVal (x : OpV) : Value := .agg #[.int .i64 x.kind, .int .i64 x.n, .string x.s]
def OpV.Ok (x : OpV) : Prop := (-9223372036854775808 ≤ x.kind ∧ x.kind ≤ 9223372036854775807) ∧ (-9223372036854775808 ≤ x.n ∧ x.n ≤ 9223372036854775807) ∧ x.s.size ≤ maxLen
/-- A slice of such values that came in. -/
def IsOps (w : World) (a : Option Addr) (len cap : Nat) (z : Nat → OpV) : Prop :=
  len ≤ cap ∧ cap ≤ maxLen ∧ ∀ i, i < len → (z i).Ok ∧ ∃ g off, a = some ⟨g, off, none⟩ ∧ w.cell? ⟨g, off + i * 3, none⟩ = some (.int .i64 (z i).kind) ∧
    w.cell? ⟨g, off + i * 3 + 1, none⟩ = some (.int .i64 (z i).n) ∧ w.cell? ⟨g, off + i * 3 + 2, none⟩ = some (.string (z i).s)


theorem open_ops {H : Type} {enc : TypeId × Value → H} {W : World} {a : Option Addr} {len cap : Nat} {d : DataW H} {p : List MemPlace}
    (h : DataW.Trod enc Try.prog W 0 (fun _ => true) true 22 (.slice a len cap) d p) : ∃ z, IsOps W a len cap z := by
  obtain ⟨fuel, hf⟩ := h
  rcases Deep.open_slice Try.underlying22 hf with ⟨hcs, _⟩ | ⟨x, l, c, m, n, D, Pl, hcs, _, hl, hm, hmm, _, hx⟩
  · simp [Value.cells] at hcs
    obtain ⟨rfl, rfl, rfl⟩ := hcs
    exact ⟨default, Nat.le_refl _, by decide, fun i hi => absurd hi (Nat.not_lt_zero _)⟩
  · simp [Value.cells] at hcs
    obtain ⟨rfl, rfl, rfl⟩ := hcs
    simp only [if_true] at hmm
    subst hmm
    have ce : Try.prog.cellsOf 29 = 3 := by kernel_rfl
    obtain ⟨z, hz⟩ := Deep.choose_lt (α := OpV) (n := len) (p := fun i y => y.Ok ∧ W.cell? (x.add (i * 3)) = some (.int .i64 y.kind) ∧ W.cell? (x.add (i * 3 + 1)) = some (.int .i64 y.n) ∧ W.cell? (x.add (i * 3 + 2)) = some (.string y.s)) (fun i hi => by
      obtain ⟨cs', h1, h2⟩ := hx i (by omega)
      rw [ce] at h1
      obtain ⟨_, hlen, hcell⟩ := World.cells?_some h1
      obtain ⟨y0, y1, y2, k, _, _, g0, g1, g2⟩ := Deep.trod_struct3 Try.underlying29 h2
      match cs', hlen with
      | [v0, v1, v2], _ =>
        obtain ⟨n0, e0, _, b0⟩ := DataW.trod_int Try.underlying3 (show DataW.trod enc Try.prog W 0 (fun _ => true) true k 3 [v0] = some y0 from g0)
        obtain ⟨n1, e1, _, b1⟩ := DataW.trod_int Try.underlying2 (show DataW.trod enc Try.prog W 0 (fun _ => true) true k 2 [v1] = some y1 from g1)
        obtain ⟨s2, e2, _, b2⟩ := DataW.trod_string Try.underlying9 (show DataW.trod enc Try.prog W 0 (fun _ => true) true k 9 [v2] = some y2 from g2)
        simp at e0 e1 e2
        subst e0 e1 e2
        have c0 := hcell 0 (by omega)
        have c1 := hcell 1 (by omega)
        have c2 := hcell 2 (by omega)
        rw [Deep.add_add] at c0 c1 c2
        exact ⟨⟨n0, n1, s2⟩, ⟨bounds_i64 b0, bounds_i64 b1, b2⟩, by simpa using c0, by simpa using c1, by simpa using c2⟩)
    refine ⟨z, hl, hm, fun i hi => ?_⟩
    have h0 := (hz 0 (by omega)).2.1
    have hs : x = ⟨x.block, x.off, none⟩ := by
      obtain ⟨b, o, sp⟩ := x
      cases sp with
      | none => rfl
      | some s =>
        simp only [Nat.zero_mul, Addr.add, if_true, World.cell?] at h0
        split at h0
        · simp at h0
        · cases h0
    refine ⟨(hz i hi).1, x.block, x.off, by rw [hs], ?_, ?_, ?_⟩
    · have := (hz i hi).2.1
      rw [hs] at this
      rw [← this]
      congr 1
      by_cases hi0 : i = 0
      · subst hi0; simp [Addr.add]
      · have h3 : ¬ i * 3 = 0 := by omega
        simp [Addr.add, h3]
    · have := (hz i hi).2.2.1
      rw [hs] at this
      simpa [Addr.add, Nat.add_assoc] using this
    · have := (hz i hi).2.2.2
      rw [hs] at this
      simpa [Addr.add, Nat.add_assoc] using this

theorem IsOps.keep {w w' : World} {a : Option Addr} {len cap : Nat} {z : Nat → OpV} (h : IsOps w a len cap z) (hk : Keep NoF w w') : IsOps w' a len cap z := by
  refine ⟨h.1, h.2.1, fun i hi => ?_⟩
  obtain ⟨ho, g, off, e, c0, c1, c2⟩ := h.2.2 i hi
  exact ⟨ho, g, off, e, hk.cell' c0 (fun f => f), hk.cell' c1 (fun f => f), hk.cell' c2 (fun f => f)⟩

/-- A text cut. -/
def cutS (s : ByteArray) (n : Nat) : ByteArray := s.extract 0 (min s.size n)
theorem cutS_size (s : ByteArray) (n : Nat) : (cutS s n).size ≤ n := by simp [cutS]; omega
theorem cutS_size2 (s : ByteArray) (n : Nat) : (cutS s n).size = min s.size n := by simp [cutS]

set_option maxHeartbeats 400000 in
theorem cut_any (s : ByteArray) (n : Nat) (w : World) (hn : n ≤ 1000000) :
    Calls Try.prog 20 #[.string s, .int .i64 n] w fun e w' => e = .returned (.string (cutS s n)) ∧ w' = w := by
  by_cases hc : n < s.size
  · have e : cutS s n = s.extract 0 n := by rw [cutS, Nat.min_eq_right (by omega)]
    rw [e]
    clear e
    go_enter Try.func20, Try.ntmps20
    go_wp2
    go_ret
    exact ⟨rfl, rfl⟩
  · have hc2 : s.size ≤ n := by omega
    have e : cutS s n = s := by rw [cutS, Nat.min_eq_left hc2]; simp
    rw [e]
    clear e
    go_enter Try.func20, Try.ntmps20
    go_wp2
    go_ret
    exact ⟨rfl, rfl⟩

/-- A value's bytes. -/
def opB (x : OpV) : List UInt8 :=
  if x.kind = 0 then smallB x.n else if x.kind = 1 then longB x.n else if x.kind = 2 then textB (cutS x.s 60).data.toList else truthB (decide (x.n % 2 = 1))
theorem textB_length (s : List UInt8) : (textB s).length = 2 + s.length % 65536 := by
  rw [textB, List.length_append, smallB_length, List.length_take]
  have := Nat.mod_le s.length 65536
  omega
theorem opB_length (x : OpV) : (opB x).length ≤ 62 ∧ 1 ≤ (opB x).length := by
  unfold opB
  split
  · rw [smallB_length]; omega
  · split
    · rw [longB_length]; omega
    · split
      · rw [textB_length, ba_length]; have := cutS_size x.s 60; omega
      · rw [truthB_length]; omega

theorem eq1_bool (n : Int) : (bits .and .i64 n 1 == 1) = decide (n % 2 = 1) := by rw [and_1_i64, Bool.eq_iff_iff]; simp

theorem fresh_alloc {w : World} {o : Obj} {v : Value} (h : ∀ k, v.ownBlock = some k → (w.alloc o).heap.size ≤ k) : ∀ k, v.ownBlock = some k → w.heap.size ≤ k := fun k hk => by
  have := h k hk
  simp at this
  omega
theorem OutR.alloc {w : World} {b : Nat} {g : Option Nat} {l : List UInt8} (h : OutR w b g l) (o : Obj) : OutR (w.alloc o) b g l := by
  obtain ⟨v, ⟨hh, ho, hne⟩, rfl⟩ := h
  refine ⟨v, ⟨?_, OwnB.keep ho ((Keep.refl NoF w).alloc o) (fun _ _ f => f), hne⟩, rfl⟩
  rw [heap_alloc_old w o (lt_of_heap hh)]; exact hh
theorem OutS.of_alloc {w w1 : World} {b : Nat} {g : Option Nat} {l : List UInt8} {o : Obj} (h : OutS (w.alloc o) b g l w1) : OutS w b g l w1 :=
  OutS.trans ((Keep.refl _ w).alloc o) (.inl rfl) h
theorem InR.alloc {w : World} {p : Nat} {g : Option Nat} {st : Option (List UInt8)} (h : InR w p g st) (o : Obj) : InR (w.alloc o) p g st :=
  h.keep ((Keep.refl NoF w).alloc o) (fun f => f) (fun _ _ f => f)
theorem InS.of_alloc {w w1 : World} {p : Nat} {g : Option Nat} {st : Option (List UInt8)} {o : Obj} (h : InS (w.alloc o) p g st w1) : InS w p g st w1 :=
  ⟨h.1, ((Keep.refl _ w).alloc o).trans' h.2⟩

set_option maxHeartbeats 400000 in
theorem bytes_any (x : OpV) (hx : x.Ok) (w : World) :
    Calls Try.prog 22 #[opVal x] w fun e w' =>
      ∃ v, e = .returned v ∧ OwnB w' v (opB x) ∧ Keep NoF w w' ∧ ∀ k, v.ownBlock = some k → w.heap.size ≤ k := by
  obtain ⟨k, n, s⟩ := x
  obtain ⟨bk, bn, bs⟩ := hx
  simp only at bk bn bs
  unfold opVal opB
  simp only
  have hs2 := cutS_size s 60
  by_cases k0 : k = 0
  · subst k0
    rw [if_pos rfl]
    go_enter Try.func22, Try.ntmps22
    go_wp2_with fail
    refine (refSmall_any n _).mono ?_
    rintro e w1 ⟨v, rfl, h1, h2, h3⟩
    go_wp2_with fail
    go_ret
    exact ⟨_, rfl, h1, ((Keep.refl NoF w).alloc _).trans' h2, fresh_alloc h3⟩
  · rw [if_neg k0]
    have e0 : (k == 0) = false := by simp; exact k0
    clear k0
    by_cases k1 : k = 1
    · subst k1
      rw [if_pos rfl]
      go_enter Try.func22, Try.ntmps22
      go_wp2_with fail
      refine (refLong_any n _).mono ?_
      rintro e w1 ⟨v, rfl, h1, h2, h3⟩
      go_wp2_with fail
      go_ret
      exact ⟨_, rfl, h1, ((Keep.refl NoF w).alloc _).trans' h2, fresh_alloc h3⟩
    · rw [if_neg k1]
      have e1 : (k == 1) = false := by simp; exact k1
      clear k1
      by_cases k2 : k = 2
      · subst k2
        rw [if_pos rfl]
        go_enter Try.func22, Try.ntmps22
        go_wp2_with fail
        refine (cut_any s 60 _ (by decide)).mono ?_
        rintro e w1 ⟨rfl, rfl⟩
        go_wp2_with fail
        refine (refText_any (cutS s 60) _ (by omega)).mono ?_
        rintro e w1 ⟨v, rfl, h1, h2, h3⟩
        go_wp2_with fail
        go_ret
        exact ⟨_, rfl, h1, ((Keep.refl NoF w).alloc _).trans' h2, fresh_alloc h3⟩
      · rw [if_neg k2]
        have e2 : (k == 2) = false := by simp; exact k2
        clear k2
        have hb := eq1_bool n
        generalize decide (n % 2 = 1) = b at hb ⊢
        go_enter Try.func22, Try.ntmps22
        go_wp2_with fail
        refine (refTruth_any b _).mono ?_
        rintro e w1 ⟨v, rfl, h1, h2, h3⟩
        go_wp2_with fail
        go_ret
        exact ⟨_, rfl, h1, ((Keep.refl NoF w).alloc _).trans' h2, fresh_alloc h3⟩

set_option maxHeartbeats 400000 in
theorem puts_any (b : Nat) (g : Option Nat) (l : List UInt8) (x : OpV) (hx : x.Ok) (w : World) (h : OutR w b g l) (hl : l.length ≤ 35184372088832) :
    Calls Try.prog 46 #[.pointer (some ⟨b, 0, none⟩), opVal x] w fun e w' =>
      e = .returned (.tuple #[]) ∧ OutS w b g (l ++ opB x) w' := by
  obtain ⟨k, n, s⟩ := x
  obtain ⟨bk, bn, bs⟩ := hx
  simp only at bk bn bs
  unfold opVal opB
  simp only
  have hs2 := cutS_size s 60
  by_cases k0 : k = 0
  · subst k0
    rw [if_pos rfl]
    go_enter Try.func46, Try.ntmps46
    go_wp2_with fail
    refine (small_any b g l n _ (h.alloc _) (by omega)).mono ?_
    rintro e w1 ⟨rfl, h1⟩
    go_wp2_with fail
    go_end0
    exact ⟨rfl, h1.of_alloc⟩
  · rw [if_neg k0]
    have e0 : (k == 0) = false := by simp; exact k0
    clear k0
    by_cases k1 : k = 1
    · subst k1
      rw [if_pos rfl]
      go_enter Try.func46, Try.ntmps46
      go_wp2_with fail
      refine (long_any b g l n _ (h.alloc _) (by omega)).mono ?_
      rintro e w1 ⟨rfl, h1⟩
      go_wp2_with fail
      go_end0
      exact ⟨rfl, h1.of_alloc⟩
    · rw [if_neg k1]
      have e1 : (k == 1) = false := by simp; exact k1
      clear k1
      by_cases k2 : k = 2
      · subst k2
        rw [if_pos rfl]
        go_enter Try.func46, Try.ntmps46
        go_wp2_with fail
        refine (cut_any s 60 _ (by decide)).mono ?_
        rintro e w1 ⟨rfl, rfl⟩
        go_wp2_with fail
        refine (text_any b g l (cutS s 60) _ (h.alloc _) (by omega) (by omega)).mono ?_
        rintro e w1 ⟨rfl, h1⟩
        go_wp2_with fail
        go_end0
        exact ⟨rfl, h1.of_alloc⟩
      · rw [if_neg k2]
        have e2 : (k == 2) = false := by simp; exact k2
        clear k2
        have hb := eq1_bool n
        generalize decide (n % 2 = 1) = t at hb ⊢
        go_enter Try.func46, Try.ntmps46
        go_wp2_with fail
        refine (truth_any b g l t _ (h.alloc _) (by omega)).mono ?_
        rintro e w1 ⟨rfl, h1⟩
        go_wp2_with fail
        go_end0
        exact ⟨rfl, h1.of_alloc⟩

/-- A value read as that kind: whether it is this one; what is left. -/
def oneB (x : OpV) (st : Option (List UInt8)) : Bool :=
  if x.kind = 0 then ((rdN 2 st : Int) == x.n % 65536) else if x.kind = 1 then (wrap64 (rdN 8 st) == x.n) else if x.kind = 2 then ((bstr (rdT st)).toList == (cutS x.s 60).toList) else (decide (rdN 1 st = 1) == decide (x.n % 2 = 1))
def oneS (x : OpV) (st : Option (List UInt8)) : Option (List UInt8) :=
  if x.kind = 0 then rdS 2 st else if x.kind = 1 then rdS 8 st else if x.kind = 2 then rdTs st else rdTr st

set_option maxHeartbeats 800000 in
theorem one_any (p : Nat) (g : Option Nat) (st : Option (List UInt8)) (x : OpV) (hx : x.Ok) (w : World) (hR : InR w p g st) :
    Calls Try.prog 24 #[.pointer (some ⟨p, 0, none⟩), opVal x] w fun e w' =>
      e = .returned (.bool (oneB x st)) ∧ InS w p g (oneS x st) w' := by
  obtain ⟨k, n, s⟩ := x
  obtain ⟨bk, bn, bs⟩ := hx
  simp only at bk bn bs
  unfold opVal oneB oneS
  simp only
  by_cases k0 : k = 0
  · subst k0
    rw [if_pos rfl, if_pos rfl]
    have hm := and_65535_i64 n
    obtain ⟨q, hq⟩ : ∃ q, n % 65536 = q := ⟨_, rfl⟩
    have bq : 0 ≤ q ∧ q < 65536 := by omega
    rw [hq] at hm ⊢
    clear hq
    go_enter Try.func24, Try.ntmps24
    go_wp2_with fail
    obtain ⟨wA, hwA⟩ : ∃ wA, w.alloc (.cells #[.int .i64 0, .int .i64 n, .string s] 29) = wA := ⟨_, rfl⟩
    have cA : wA.cell? ⟨w.heap.size, 1, none⟩ = some (.int .i64 n) := by rw [← hwA]; exact cell_of_heap (heap_new _ _) 1
    have HRA : Hid (InR wA.drew p g st) := by rw [← hwA]; exact (hR.alloc _).keep (Keep.refl NoF _).drew (fun f => f) (fun _ _ f => f)
    have HKA : Hid (Keep (· = p) w wA) := by rw [← hwA]; exact (Keep.refl _ w).alloc _
    have hpne : ¬ w.heap.size = p := by obtain ⟨_, _, _, _, hV, _⟩ := hR; have := lt_of_heap hV.1; omega
    rw [hwA]
    clear hwA hR
    go_region_law (first | (go_simp; go_at_call 29; refine (insmall_any p g st _ HRA.out).mono ?_; rintro e w1 ⟨rfl, h1⟩; have cb := h1.2.cell' (show wA.drew.cell? ⟨w.heap.size, 1, none⟩ = _ from cA) hpne; have H1 := Lib.hid h1; clear h1))
    all_goals
      go_wp2_with fail
      go_ret
      exact ⟨rfl, H1.out.1, HKA.out.trans' H1.out.2.of_drew⟩
  · rw [if_neg k0, if_neg k0]
    have e0 : (k == 0) = false := by simp; exact k0
    clear k0
    by_cases k1 : k = 1
    · subst k1
      rw [if_pos rfl, if_pos rfl]
      go_enter Try.func24, Try.ntmps24
      go_wp2_with fail
      obtain ⟨wA, hwA⟩ : ∃ wA, w.alloc (.cells #[.int .i64 1, .int .i64 n, .string s] 29) = wA := ⟨_, rfl⟩
      have cA : wA.cell? ⟨w.heap.size, 1, none⟩ = some (.int .i64 n) := by rw [← hwA]; exact cell_of_heap (heap_new _ _) 1
      have HRA : Hid (InR wA.drew p g st) := by rw [← hwA]; exact (hR.alloc _).keep (Keep.refl NoF _).drew (fun f => f) (fun _ _ f => f)
      have HKA : Hid (Keep (· = p) w wA) := by rw [← hwA]; exact (Keep.refl _ w).alloc _
      have hpne : ¬ w.heap.size = p := by obtain ⟨_, _, _, _, hV, _⟩ := hR; have := lt_of_heap hV.1; omega
      rw [hwA]
      clear hwA hR
      go_region_law (first | (go_simp; go_at_call 31; refine (inlong_any p g st _ HRA.out).mono ?_; rintro e w1 ⟨rfl, h1⟩; have cb := h1.2.cell' (show wA.drew.cell? ⟨w.heap.size, 1, none⟩ = _ from cA) hpne; have H1 := Lib.hid h1; clear h1))
      all_goals
        go_wp2_with fail
        go_ret
        exact ⟨rfl, H1.out.1, HKA.out.trans' H1.out.2.of_drew⟩
    · rw [if_neg k1, if_neg k1]
      have e1 : (k == 1) = false := by simp; exact k1
      clear k1
      by_cases k2 : k = 2
      · subst k2
        rw [if_pos rfl, if_pos rfl]
        go_enter Try.func24, Try.ntmps24
        go_wp2_with fail
        obtain ⟨wA, hwA⟩ : ∃ wA, w.alloc (.cells #[.int .i64 2, .int .i64 n, .string s] 29) = wA := ⟨_, rfl⟩
        have cA : wA.cell? ⟨w.heap.size, 2, none⟩ = some (.string s) := by rw [← hwA]; exact cell_of_heap (heap_new _ _) 2
        have HRA : Hid (InR wA.drew p g st) := by rw [← hwA]; exact (hR.alloc _).keep (Keep.refl NoF _).drew (fun f => f) (fun _ _ f => f)
        have HKA : Hid (Keep (· = p) w wA) := by rw [← hwA]; exact (Keep.refl _ w).alloc _
        have hpne : ¬ w.heap.size = p := by obtain ⟨_, _, _, _, hV, _⟩ := hR; have := lt_of_heap hV.1; omega
        rw [hwA]
        clear hwA hR
        go_region_law (first | (go_simp; go_at_call 20; refine (cut_any s 60 _ (by decide)).mono ?_; rintro e w2 ⟨rfl, rfl⟩) | (go_simp; go_at_call 33; refine (intext_any p g st _ HRA.out).mono ?_; rintro e w1 ⟨rfl, h1⟩; have cb := h1.2.cell' (show wA.drew.cell? ⟨w.heap.size, 2, none⟩ = _ from cA) hpne; have H1 := Lib.hid h1; clear h1))
        all_goals
          go_wp2_with fail
          go_ret
          exact ⟨rfl, H1.out.1, HKA.out.trans' H1.out.2.of_drew⟩
      · rw [if_neg k2, if_neg k2]
        have e2 : (k == 2) = false := by simp; exact k2
        clear k2
        have hb := eq1_bool n
        generalize decide (n % 2 = 1) = t at hb ⊢
        go_enter Try.func24, Try.ntmps24
        go_wp2_with fail
        obtain ⟨wA, hwA⟩ : ∃ wA, w.alloc (.cells #[.int .i64 k, .int .i64 n, .string s] 29) = wA := ⟨_, rfl⟩
        have cA : wA.cell? ⟨w.heap.size, 1, none⟩ = some (.int .i64 n) := by rw [← hwA]; exact cell_of_heap (heap_new _ _) 1
        have HRA : Hid (InR wA.drew p g st) := by rw [← hwA]; exact (hR.alloc _).keep (Keep.refl NoF _).drew (fun f => f) (fun _ _ f => f)
        have HKA : Hid (Keep (· = p) w wA) := by rw [← hwA]; exact (Keep.refl _ w).alloc _
        have hpne : ¬ w.heap.size = p := by obtain ⟨_, _, _, _, hV, _⟩ := hR; have := lt_of_heap hV.1; omega
        rw [hwA]
        clear hwA hR
        go_region_law (first | (go_simp; go_at_call 35; refine (intruth_any p g st _ HRA.out).mono ?_; rintro e w1 ⟨rfl, h1⟩; have cb := h1.2.cell' (show wA.drew.cell? ⟨w.heap.size, 1, none⟩ = _ from cA) hpne; have H1 := Lib.hid h1; clear h1))
        all_goals
          go_wp2_with fail
          go_ret
          exact ⟨rfl, H1.out.1, HKA.out.trans' H1.out.2.of_drew⟩

/-! ### the bytes of many values -/
def opsFrom (z : Nat → OpV) (k m : Nat) : List UInt8 := (List.range' k (m - k)).flatMap fun i => opB (z i)
theorem opsFrom_self (z : Nat → OpV) (k : Nat) : opsFrom z k k = [] := by simp [opsFrom]
theorem opsFrom_snoc (z : Nat → OpV) (k m : Nat) (h : k ≤ m) : opsFrom z k (m + 1) = opsFrom z k m ++ opB (z m) := by
  have e : m + 1 - k = (m - k) + 1 := by omega
  unfold opsFrom
  rw [e, List.range'_concat, List.flatMap_append]
  have e2 : k + 1 * (m - k) = m := by omega
  rw [e2]
  simp
theorem opsFrom_cons (z : Nat → OpV) (k m : Nat) (h : k < m) : opsFrom z k m = opB (z k) ++ opsFrom z (k + 1) m := by
  have e : m - k = (m - (k + 1)) + 1 := by omega
  unfold opsFrom
  rw [e, List.range'_succ, List.flatMap_cons]
theorem opsFrom_length (z : Nat → OpV) (k m : Nat) (h : k ≤ m) : (opsFrom z k m).length ≤ 62 * (m - k) := by
  induction m with
  | zero => simp [opsFrom]
  | succ m ih =>
    by_cases hk : k = m + 1
    · subst hk; rw [opsFrom_self]; simp
    · rw [opsFrom_snoc z k m (by omega), List.length_append]
      have := ih (by omega)
      have := (opB_length (z m)).1
      omega

theorem bstr_take_all (s : ByteArray) (h : s.size ≤ 60) : bstr (s.data.toList.take (s.data.toList.length % 65536)) = s := by
  rw [ba_length, Nat.mod_eq_of_lt (by omega), List.take_of_length_le (by rw [ba_length]; exact Nat.le_refl _)]
  simp [bstr]
theorem one_put (x : OpV) (hx : x.Ok) (r : List UInt8) : oneB x (some (opB x ++ r)) = true ∧ oneS x (some (opB x ++ r)) = some r := by
  unfold oneB oneS opB
  by_cases k0 : x.kind = 0
  · simp only [if_pos k0]
    obtain ⟨h1, h2⟩ := rd_small x.n r
    rw [h1, h2]
    refine ⟨?_, rfl⟩
    simp only [beq_iff_eq]
    omega
  · simp only [if_neg k0]
    by_cases k1 : x.kind = 1
    · simp only [if_pos k1]
      obtain ⟨h1, h2⟩ := rd_long x.n hx.2.1 r
      rw [h1, h2]
      exact ⟨by simp, rfl⟩
    · simp only [if_neg k1]
      by_cases k2 : x.kind = 2
      · simp only [if_pos k2]
        obtain ⟨h1, h2⟩ := rd_text (cutS x.s 60).data.toList r
        rw [h1, h2, bstr_take_all _ (cutS_size _ _)]
        exact ⟨by simp, rfl⟩
      · simp only [if_neg k2]
        obtain ⟨h1, h2⟩ := rd_truth (decide (x.n % 2 = 1)) r
        rw [h1, h2]
        exact ⟨by simp, rfl⟩

/-! ### writers beside one another -/
theorem OutR.keep {F : Nat → Prop} {w w' : World} {b : Nat} {g : Option Nat} {l : List UInt8} (h : OutR w b g l) (hk : Keep F w w') (hb : ¬ F b) (hg : ∀ k, g = some k → ¬ F k) : OutR w' b g l := by
  obtain ⟨v, ⟨hh, ho, hne⟩, rfl⟩ := h
  refine ⟨v, ⟨?_, OwnB.keep ho hk hg, hne⟩, rfl⟩
  rw [hk.block b (lt_of_heap hh) hb]; exact hh
theorem OutR.lt {w : World} {b : Nat} {g : Option Nat} {l : List UInt8} (h : OutR w b g l) : b < w.heap.size ∧ (∀ k, g = some k → k < w.heap.size) ∧ g ≠ some b := by
  obtain ⟨v, ⟨hh, ho, hne⟩, rfl⟩ := h
  exact ⟨lt_of_heap hh, fun k hk => OwnB.lt ho k hk, hne⟩
/-- Two writers share nothing. -/
def Apart (b : Nat) (g : Option Nat) (b' : Nat) (g' : Option Nat) : Prop :=
  b ≠ b' ∧ (∀ k, g = some k → k ≠ b') ∧ (∀ k, g' = some k → k ≠ b) ∧ ∀ k, g = some k → g' ≠ some k
theorem Apart.symm {b : Nat} {g : Option Nat} {b' : Nat} {g' : Option Nat} (h : Apart b g b' g') : Apart b' g' b g :=
  ⟨fun e => h.1 e.symm, h.2.2.1, h.2.1, fun k hk e => h.2.2.2 k e hk⟩
theorem Apart.step {n b : Nat} {g g1 : Option Nat} {b' : Nat} {g' : Option Nat} (h : Apart b g b' g') (h1 : g1 = g ∨ ∀ k, g1 = some k → n ≤ k) (hb' : b' < n) (hg' : ∀ k, g' = some k → k < n) : Apart b g1 b' g' := by
  rcases h1 with rfl | h1
  · exact h
  · refine ⟨h.1, fun k hk e => ?_, h.2.2.1, fun k hk e => ?_⟩
    · have := h1 k hk; omega
    · have := h1 k hk; have := hg' k e; omega
theorem Apart.keep {b : Nat} {g : Option Nat} {b' : Nat} {g' : Option Nat} {w w' : World} {l : List UInt8} (h : Apart b g b' g') (hk : Keep (OF b g) w w') (hr : OutR w b' g' l) : OutR w' b' g' l := by
  refine hr.keep hk ?_ ?_
  · rintro (e | e)
    · exact h.1 e.symm
    · exact h.2.1 _ e rfl
  · rintro k hk2 (e | e)
    · exact h.2.2.1 k hk2 e
    · exact h.2.2.2 k e hk2
end Go.Proofs.Ytdipknkajmoldaa
