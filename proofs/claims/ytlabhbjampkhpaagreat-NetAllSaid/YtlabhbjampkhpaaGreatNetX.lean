/- A net, plain: packets in the order of their bytes. A net, plain: packets by their bytes. A net's New, Len, Send. A net's Look. A net's Take, Twice; no net. A net's Twice; no net. -/
import Derived.Test.YtlabhbjampkhpaaGreatBagTS
import Derived.Test.YtlabhbjampkhpaaGreatWireX
import Derived.Lib.ConvBytes
section
open Go Go.Proofs Go.RowKit
namespace Go.Proofs.YtlabhbjampkhpaaGreat
/-- Bytes as one number, the first the greatest. -/
def beK : List UInt8 → Nat
  | [] => 0
  | x :: l => x.toNat * 256 ^ l.length + beK l
theorem beK_lt : ∀ l : List UInt8, beK l < 256 ^ l.length
  | [] => by simp [beK]
  | x :: l => by
    have h := beK_lt l
    have hx := x.toNat_lt
    rw [beK, List.length_cons, Nat.pow_succ]
    have h2 : x.toNat * 256 ^ l.length ≤ 255 * 256 ^ l.length := Nat.mul_le_mul_right _ (by omega)
    omega
theorem beK_step (a b p q P : Nat) (hp : p < P) (hq : q < P) : (a * P + p < b * P + q ↔ a < b ∨ a = b ∧ p < q) ∧ (a * P + p = b * P + q ↔ a = b ∧ p = q) := by
  rcases Nat.lt_trichotomy a b with h | h | h
  · have h2 : (a + 1) * P ≤ b * P := Nat.mul_le_mul_right _ h
    rw [Nat.add_mul, Nat.one_mul] at h2
    constructor <;> constructor <;> intro <;> omega
  · subst h
    constructor <;> constructor <;> intro <;> omega
  · have h2 : (b + 1) * P ≤ a * P := Nat.mul_le_mul_right _ h
    rw [Nat.add_mul, Nat.one_mul] at h2
    constructor <;> constructor <;> intro <;> omega
theorem less_key : ∀ (x y : List UInt8), x.length = y.length → (Op.bytesLess x y = decide (beK x < beK y)) ∧ (beK x = beK y ↔ x = y)
  | [], [], _ => by simp [Op.bytesLess, beK]
  | [], b :: y, h => by simp at h
  | a :: x, [], h => by simp at h
  | a :: x, b :: y, h => by
    have hl : x.length = y.length := by simpa using h
    obtain ⟨h1, h2⟩ := less_key x y hl
    have hs := beK_step a.toNat b.toNat (beK x) (beK y) (256 ^ y.length) (hl ▸ beK_lt x) (beK_lt y)
    rw [beK, beK, hl]
    constructor
    · rw [Bool.eq_iff_iff, decide_eq_true_eq, hs.1]
      rw [bytesLess_eq] at h1 ⊢
      have h3 : x < y ↔ beK x < beK y := by simpa using h1
      rw [decide_eq_true_eq, List.cons_lt_cons_iff, h3, UInt8.lt_iff_toNat_lt, ← UInt8.toNat_inj]
    · rw [hs.2, h2, UInt8.toNat_inj]; simp
def okS (s : ByteArray) : Prop := s.size = 21
def keyS (s : ByteArray) : Int := (beK s.data.toList : Int)
theorem ba_toList (s : ByteArray) : s.toList = s.data.toList := ByteArray.toList_eq s
theorem cmpS_key : KeyCS cmpS keyS okS where
  lt x y hx hy := by
    have hl : x.data.toList.length = y.data.toList.length := by rw [ba_length, ba_length, hx, hy]
    obtain ⟨h1, h2⟩ := less_key _ _ hl
    unfold cmpS keyS
    rw [ba_toList, ba_toList, h1]
    by_cases h : beK x.data.toList < beK y.data.toList
    · simp [h]
    · simp [h]; split <;> simp
  eq x y hx hy := by
    have hl : x.data.toList.length = y.data.toList.length := by rw [ba_length, ba_length, hx, hy]
    obtain ⟨h1, h2⟩ := less_key _ _ hl
    unfold cmpS keyS
    rw [ba_toList, ba_toList, h1]
    by_cases h : beK x.data.toList < beK y.data.toList
    · simp [h]; omega
    · have e1 : decide (beK x.data.toList < beK y.data.toList) = false := by simpa using h
      rw [e1, if_neg (by simp)]
      by_cases he : x.data.toList = y.data.toList
      · rw [he]; simp
      · have hn : ¬ beK x.data.toList = beK y.data.toList := fun e => he (h2.1 e)
        have e2 : (x.data.toList == y.data.toList) = false := by simpa using he
        rw [e2, if_neg (by simp)]
        constructor
        · intro e; omega
        · intro e; omega
theorem keyS_inj {x y : ByteArray} (hx : okS x) (hy : okS y) (h : keyS x = keyS y) : x = y := by
  have hl : x.data.toList.length = y.data.toList.length := by rw [ba_length, ba_length, hx, hy]
  have h2 := (less_key _ _ hl).2.1 (by unfold keyS at h; omega)
  obtain ⟨⟨a⟩⟩ := x
  obtain ⟨⟨b⟩⟩ := y
  simpa using h2
/-- What is in a net's bag. -/
structure GoodL (l : List (ByteArray × Int)) : Prop where
  srt : SortKS keyS l
  ok : ∀ p ∈ l, okS p.1
  cnt : ∀ p ∈ l, 1 ≤ p.2
theorem GoodL.nil : GoodL [] := ⟨List.Pairwise.nil, by simp, by simp⟩
theorem expS_append (l m : List (ByteArray × Int)) : expS (l ++ m) = expS l ++ expS m := List.flatMap_append
theorem expS_cons (p : ByteArray × Int) (l : List (ByteArray × Int)) : expS (p :: l) = List.replicate p.2.toNat p.1 ++ expS l := rfl
theorem expS_mem {l : List (ByteArray × Int)} {x : ByteArray} (h : x ∈ expS l) : ∃ p ∈ l, p.1 = x := by
  unfold expS at h
  obtain ⟨p, hp, hx⟩ := List.mem_flatMap.1 h
  exact ⟨p, hp, (List.eq_of_mem_replicate hx).symm⟩
theorem exp_len : ∀ l : List (ByteArray × Int), (∀ p ∈ l, 1 ≤ p.2) → ((expS l).length : Int) = sumS l ∧ l.length ≤ (expS l).length ∧ ∀ p ∈ l, p.2 ≤ (expS l).length
  | [], _ => by simp [expS, sumS]
  | p :: l, h => by
    obtain ⟨h1, h2, h3⟩ := exp_len l (fun q hq => h q (List.mem_cons_of_mem _ hq))
    have hp := h p (by simp)
    rw [expS_cons, List.length_append, List.length_replicate]
    refine ⟨by simp [sumS] at h1 ⊢; omega, by simp; omega, fun q hq => ?_⟩
    rcases List.mem_cons.1 hq with rfl | hq
    · omega
    · have := h3 q hq; omega
/-- A text in its place. -/
def insS (t : ByteArray) (L : List ByteArray) : List ByteArray := (L.takeWhile fun x => decide (keyS x ≤ keyS t)) ++ t :: (L.dropWhile fun x => decide (keyS x ≤ keyS t))
theorem ins_at {t : ByteArray} {A B : List ByteArray} (hA : ∀ x ∈ A, keyS x ≤ keyS t) (hB : ∀ x ∈ B, keyS t < keyS x) : insS t (A ++ B) = A ++ t :: B := by
  unfold insS
  have h1 : (A ++ B).takeWhile (fun x => decide (keyS x ≤ keyS t)) = A := by
    rw [List.takeWhile_append_of_pos (fun x hx => by simpa using hA x hx)]
    cases B with
    | nil => simp
    | cons b B => rw [List.takeWhile_cons_of_neg (by have := hB b (by simp); simp; omega), List.append_nil]
  have h2 : (A ++ B).dropWhile (fun x => decide (keyS x ≤ keyS t)) = B := by
    rw [List.dropWhile_append_of_pos (fun x hx => by simpa using hA x hx)]
    cases B with
    | nil => simp
    | cons b B => rw [List.dropWhile_cons_of_neg (by have := hB b (by simp); simp; omega)]
  rw [h1, h2]
theorem add_good {l : List (ByteArray × Int)} (h : GoodL l) {t : ByteArray} (ht : okS t) (n : Int) : GoodL (addWS cmpS l t n) := by
  obtain ⟨h1, h2, _, _, _, h6⟩ := add_allS cmpS_key h.srt h.ok ht n
  refine ⟨h1, h2, fun p hp => ?_⟩
  rcases h6 p hp with e | e
  · exact h.cnt p e
  · exact e.2
/-- One more. -/
theorem add_one {l : List (ByteArray × Int)} (h : GoodL l) {t : ByteArray} (ht : okS t) : expS (addWS cmpS l t 1) = insS t (expS l) := by
  obtain ⟨A, B, hl, hA, hh⟩ := add_splitS cmpS_key h.srt h.ok ht 1
  have hEA : ∀ x ∈ expS A, keyS x ≤ keyS t := fun x hx => by
    obtain ⟨p, hp, rfl⟩ := expS_mem hx
    have := hA p hp; omega
  rcases hh with ⟨y, m, B', rfl, hy, hB', _, ha⟩ | ⟨hB, _, ha⟩
  · have hyt : y = t := keyS_inj (h.ok (y, m) (by rw [hl]; simp)) ht hy
    have hm := h.cnt (y, m) (by rw [hl]; simp)
    simp only at hm
    subst hyt
    rw [ha, if_neg (by omega), hl, expS_append, expS_append, expS_cons, expS_cons, ← List.append_assoc, ← List.append_assoc]
    have e : (max (m + 1) 0).toNat = m.toNat + 1 := by omega
    rw [ins_at (A := expS A ++ List.replicate m.toNat y) (B := expS B')]
    · simp only [e, List.replicate_succ', List.append_assoc, List.singleton_append]
    · intro x hx
      rcases List.mem_append.1 hx with e | e
      · exact hEA x e
      · rw [List.eq_of_mem_replicate e]; exact Int.le_refl _
    · intro x hx
      obtain ⟨p, hp, rfl⟩ := expS_mem hx
      exact hB' p hp
  · rw [ha, if_neg (by omega), hl, expS_append, expS_append, expS_cons, ins_at hEA]
    · rfl
    · intro x hx
      obtain ⟨p, hp, rfl⟩ := expS_mem hx
      exact hB p hp
/-- One less. -/
theorem add_less {l : List (ByteArray × Int)} (h : GoodL l) {t : ByteArray} (ht : okS t) {i : Nat} (hi : (expS l)[i]? = some t) : expS (addWS cmpS l t (-1)) = (expS l).eraseIdx i := by
  obtain ⟨A, B, hl, hA, hh⟩ := add_splitS cmpS_key h.srt h.ok ht (-1)
  have nA : t ∉ expS A := fun e => by obtain ⟨p, hp, e2⟩ := expS_mem e; have := hA p hp; rw [e2] at this; omega
  rcases hh with ⟨y, m, B', rfl, hy, hB', _, ha⟩ | ⟨hB, _, ha⟩
  · have hyt : y = t := keyS_inj (h.ok (y, m) (by rw [hl]; simp)) ht hy
    have hm := h.cnt (y, m) (by rw [hl]; simp)
    simp only at hm
    subst hyt
    have nB : y ∉ expS B' := fun e => by obtain ⟨p, hp, e2⟩ := expS_mem e; have := hB' p hp; rw [e2] at this; omega
    have hnew : expS (addWS cmpS l y (-1)) = expS A ++ (List.replicate (m.toNat - 1) y ++ expS B') := by
      rw [ha]
      by_cases h1 : m = 1
      · subst h1; simp [expS_append]
      · rw [if_neg (by omega), expS_append, expS_cons]
        have e : (max (m + -1) 0).toNat = m.toNat - 1 := by omega
        simp only [e]
    rw [hnew]
    rw [hl, expS_append, expS_cons] at hi ⊢
    simp only at hi ⊢
    have hge : (expS A).length ≤ i := by
      rcases Nat.lt_or_ge i (expS A).length with e | e
      · rw [List.getElem?_append_left e] at hi
        exact absurd (List.mem_of_getElem? hi) nA
      · exact e
    rw [List.getElem?_append_right hge] at hi
    rw [List.eraseIdx_append_of_length_le hge]
    congr 1
    generalize i - (expS A).length = j at hi ⊢
    have hlt : j < m.toNat := by
      rcases Nat.lt_or_ge j m.toNat with e | e
      · exact e
      · rw [List.getElem?_append_right (by simpa using e)] at hi
        exact absurd (List.mem_of_getElem? hi) nB
    rw [List.eraseIdx_append_of_lt_length (by simpa using hlt), List.eraseIdx_replicate, if_pos hlt]
  · exfalso
    have hm := List.mem_of_getElem? hi
    rw [hl, expS_append] at hm
    rcases List.mem_append.1 hm with e | e
    · exact nA e
    · obtain ⟨p, hp, e2⟩ := expS_mem e; have := hB p hp; rw [e2] at this; omega
end Go.Proofs.YtlabhbjampkhpaaGreat
end

section
open Go Go.Proofs Go.RowKit
namespace Go.Proofs.YtlabhbjampkhpaaGreat
def encP (p : PackV) : ByteArray := bstr (wireB p)
def GoodP (p : PackV) : Prop := p.Ok ∧ packB p = true
theorem encP_size (p : PackV) : (encP p).size = 21 := (bstr_size (wireB p)).trans (wireB_length p)
theorem encP_ok (p : PackV) : okS (encP p) := encP_size p
theorem bstr_inj {a b : List UInt8} (h : bstr a = bstr b) : a = b := by
  have : (bstr a).data.toList = (bstr b).data.toList := by rw [h]
  simpa [bstr] using this
theorem encP_inj {p q : PackV} (hp : GoodP p) (hq : GoodP q) (h : encP p = encP q) : p = q := wireB_inj hp.1 hq.1 hp.2 hq.2 (bstr_inj h)
/-- A packet in its place. -/
def insP (p : PackV) (ps : List PackV) : List PackV := (ps.takeWhile fun q => decide (keyS (encP q) ≤ keyS (encP p))) ++ p :: (ps.dropWhile fun q => decide (keyS (encP q) ≤ keyS (encP p)))
theorem ins_map (p : PackV) (ps : List PackV) : (insP p ps).map encP = insS (encP p) (ps.map encP) := by
  unfold insP insS
  simp only [List.map_append, List.map_cons, List.takeWhile_map, List.dropWhile_map, Function.comp_def]
theorem insP_perm (p : PackV) (ps : List PackV) : (insP p ps).Perm (p :: ps) := by
  unfold insP
  refine (List.perm_middle).trans ?_
  rw [List.takeWhile_append_dropWhile]
theorem insP_length (p : PackV) (ps : List PackV) : (insP p ps).length = ps.length + 1 := by
  rw [(insP_perm p ps).length_eq]; rfl
theorem insP_good {p : PackV} {ps : List PackV} (hp : GoodP p) (h : ∀ q ∈ ps, GoodP q) : ∀ q ∈ insP p ps, GoodP q := fun q hq => by
  rcases List.mem_cons.1 ((insP_perm p ps).mem_iff.1 hq) with rfl | hq
  · exact hp
  · exact h q hq
def atP (ps : List PackV) (i : Int) : Option PackV := if i < 0 then none else ps[i.toNat]?
def lookP (ps : List PackV) (i : Int) : PackV := (atP ps i).getD PackV.zero
def inP (ps : List PackV) (i : Int) : Bool := decide (0 ≤ i) && decide (i < ps.length)
theorem atP_in {ps : List PackV} {i : Int} (h : inP ps i = true) : ∃ (hi : i.toNat < ps.length), atP ps i = some ps[i.toNat] ∧ lookP ps i = ps[i.toNat] ∧ 0 ≤ i := by
  unfold inP at h
  simp only [Bool.and_eq_true, decide_eq_true_eq] at h
  have hi : i.toNat < ps.length := by omega
  have e : atP ps i = some ps[i.toNat] := by unfold atP; rw [if_neg (by omega), List.getElem?_eq_getElem hi]
  exact ⟨hi, e, by unfold lookP; rw [e]; rfl, h.1⟩
theorem atP_out {ps : List PackV} {i : Int} (h : inP ps i = false) : atP ps i = none ∧ lookP ps i = PackV.zero := by
  have e : atP ps i = none := by
    unfold inP at h
    unfold atP
    split
    · rfl
    · simp at h
      exact List.getElem?_eq_none (by have := h (by omega); omega)
  exact ⟨e, by unfold lookP; rw [e]; rfl⟩
theorem atP_some (ps : List PackV) (i : Int) : (atP ps i).isSome = inP ps i := by
  cases h : inP ps i
  · rw [(atP_out h).1]; rfl
  · obtain ⟨_, e, _⟩ := atP_in h; rw [e]; rfl
theorem atP_ok {ps : List PackV} (h : ∀ q ∈ ps, GoodP q) (i : Int) : (lookP ps i).Ok := by
  cases e : inP ps i
  · rw [(atP_out e).2]; exact zero_ok
  · obtain ⟨hi, _, e2, _⟩ := atP_in e; rw [e2]; exact (h _ (List.getElem_mem hi)).1
theorem atS_map {l : List (ByteArray × Int)} {ps : List PackV} (h : expS l = ps.map encP) (i : Int) : atS l i = (atP ps i).map encP := by
  unfold atS atP
  split
  · rfl
  · rw [h, List.getElem?_map]
def sentB (p : PackV) (ps : List PackV) : Bool := packB p && decide (ps.length < 400)
def sendP (p : PackV) (ps : List PackV) : List PackV := if sentB p ps then insP p ps else ps
def takeP (ps : List PackV) (i : Int) : List PackV := if inP ps i then ps.eraseIdx i.toNat else ps
def twiceB (ps : List PackV) (i : Int) : Bool := inP ps i && decide (ps.length < 400)
def twiceP (ps : List PackV) (i : Int) : List PackV := if twiceB ps i then insP (lookP ps i) ps else ps
/-- A net's blocks: those of F. -/
structure NetR (w : World) (F : Nat → Prop) (nb b : Nat) (v : Value) (l : List (ByteArray × Int)) (ps : List PackV) : Prop where
  row : w.heap[nb]? = some (.cells #[.pointer (some ⟨b, 0, none⟩)] 74 (0, 0))
  bag : BagS w b 46 #[] v l
  good : GoodL l
  exp : expS l = ps.map encP
  gp : ∀ p ∈ ps, GoodP p
  le : ps.length ≤ 400
  nbb : nb ≠ b
  nv : v.ownBlock ≠ some nb
  fn : F nb
  fb : F b
  fv : ∀ k, v.ownBlock = some k → F k
  lt : ∀ k, F k → k < w.heap.size
def NetW (w : World) (F : Nat → Prop) (nb : Nat) (ps : List PackV) : Prop := ∃ b v l, NetR w F nb b v l ps
theorem NetR.keep {w w' : World} {F G : Nat → Prop} {nb b : Nat} {v : Value} {l : List (ByteArray × Int)} {ps : List PackV} (h : NetR w F nb b v l ps) (hk : Keep G w w') (hg : ∀ k, F k → ¬ G k) : NetR w' F nb b v l ps :=
  ⟨by rw [hk.block nb (lt_of_heap h.row) (hg nb h.fn)]; exact h.row, h.bag.keep hk (hg b h.fb) (fun k hk => hg k (h.fv k hk)), h.good, h.exp, h.gp, h.le, h.nbb, h.nv, h.fn, h.fb, h.fv, fun k hF => Nat.lt_of_lt_of_le (h.lt k hF) hk.size⟩
theorem NetW.keep {w w' : World} {F G : Nat → Prop} {nb : Nat} {ps : List PackV} (h : NetW w F nb ps) (hk : Keep G w w') (hg : ∀ k, F k → ¬ G k) : NetW w' F nb ps := by
  obtain ⟨b, v, l, h⟩ := h
  exact ⟨b, v, l, h.keep hk hg⟩
theorem NetW.good {w : World} {F : Nat → Prop} {nb : Nat} {ps : List PackV} (h : NetW w F nb ps) : (∀ p ∈ ps, GoodP p) ∧ ps.length ≤ 400 := by
  obtain ⟨b, v, l, h⟩ := h
  exact ⟨h.gp, h.le⟩
theorem NetR.bounds {w : World} {F : Nat → Prop} {nb b : Nat} {v : Value} {l : List (ByteArray × Int)} {ps : List PackV} (h : NetR w F nb b v l ps) :
    l.length ≤ 1000000 ∧ (∀ p ∈ l, 0 ≤ p.2 ∧ p.2 ≤ 1000000) ∧ sumS l = ps.length := by
  obtain ⟨h1, h2, h3⟩ := exp_len l h.good.cnt
  have e : (expS l).length = ps.length := by rw [h.exp, List.length_map]
  rw [e] at h1 h2 h3
  have := h.le
  exact ⟨by omega, fun p hp => ⟨by have := h.good.cnt p hp; omega, by have := h3 p hp; omega⟩, h1.symm⟩
theorem NetR.mono_F {w : World} {F G : Nat → Prop} {nb b : Nat} {v : Value} {l : List (ByteArray × Int)} {ps : List PackV} (h : NetR w F nb b v l ps) (hg : ∀ k, F k → G k) (hl : ∀ k, G k → k < w.heap.size) : NetR w G nb b v l ps :=
  ⟨h.row, h.bag, h.good, h.exp, h.gp, h.le, h.nbb, h.nv, hg _ h.fn, hg _ h.fb, fun k hk => hg k (h.fv k hk), hl⟩
/-- F, and what is new. -/
def Wid (F : Nat → Prop) (w w' : World) (k : Nat) : Prop := F k ∨ (w.heap.size ≤ k ∧ k < w'.heap.size)
theorem NetR.wid {w0 w : World} {F : Nat → Prop} {nb b : Nat} {v : Value} {l : List (ByteArray × Int)} {ps : List PackV} (h : NetR w F nb b v l ps) : NetR w (Wid F w0 w) nb b v l ps :=
  ⟨h.row, h.bag, h.good, h.exp, h.gp, h.le, h.nbb, h.nv, .inl h.fn, .inl h.fb, fun k hk => .inl (h.fv k hk), fun k hk => hk.elim (h.lt k) (fun e => e.2)⟩
theorem NetW.wid {w0 w : World} {F : Nat → Prop} {nb : Nat} {ps : List PackV} (h : NetW w F nb ps) : NetW w (Wid F w0 w) nb ps := by
  obtain ⟨b, v, l, h⟩ := h
  exact ⟨b, v, l, h.wid⟩
/-- Behind an Add. -/
theorem NetR.add {w w' : World} {F : Nat → Prop} {nb b : Nat} {v v' : Value} {l l' : List (ByteArray × Int)} {ps ps' : List PackV} (h : NetR w F nb b v l ps)
    (hb : BagS w' b 46 #[] v' l') (hk : Keep (fun k => k = b ∨ v.ownBlock = some k) w w') (hf : ∀ k, v'.ownBlock = some k → v.ownBlock = some k ∨ w.heap.size ≤ k)
    (hg : GoodL l') (he : expS l' = ps'.map encP) (hp : ∀ p ∈ ps', GoodP p) (hl : ps'.length ≤ 400) : NetR w' (Wid F w w') nb b v' l' ps' ∧ Keep F w w' := by
  have hn : ¬ (nb = b ∨ v.ownBlock = some nb) := fun e => e.elim h.nbb h.nv
  refine ⟨⟨by rw [hk.block nb (lt_of_heap h.row) hn]; exact h.row, hb, hg, he, hp, hl, h.nbb, fun e => ?_, .inl h.fn, .inl h.fb, fun k hk2 => ?_, fun k hF => ?_⟩, hk.mono fun i hi e => ?_⟩
  · rcases hf nb e with e | e
    · exact h.nv e
    · have := lt_of_heap h.row; omega
  · rcases hf k hk2 with e | e
    · exact .inl (h.fv k e)
    · exact .inr ⟨e, (World.ownsRow.lt hb.own k hk2).2⟩
  · rcases hF with e | e
    · exact Nat.lt_of_lt_of_le (h.lt k e) hk.size
    · exact e.2
  · rcases e with rfl | e
    · exact h.fb
    · exact h.fv i e
end Go.Proofs.YtlabhbjampkhpaaGreat
end

section
open Go Go.RowKit Go.Maps Go.Sort Go.Shelf
namespace Go.Proofs.YtlabhbjampkhpaaGreat
def NewNet (w : World) (e : Ending) (w' : World) : Prop :=
  ∃ nb F, e = .returned (.pointer (some ⟨nb, 0, none⟩)) ∧ NetW w' F nb [] ∧ Keep NoF w w' ∧ ∀ k, F k → w.heap.size ≤ k
theorem netnew_any (w : World) : Calls Tryz.prog 20 #[] w (NewNet w) := by
  go_enter Tryz.func20, Tryz.ntmps20
  go_wp2_with fail
  refine (newS_any 46 #[] w).mono ?_
  rintro e w1 ⟨b, rfl, hB, hk, hb⟩
  have hlt := lt_of_heap hB.row
  have hs := hk.size
  have hR := heap_new w1 (.cells #[.pointer (some ⟨b, 0, none⟩)] 74 (0, 0))
  have ka := keep_alloc w1 (.cells #[.pointer (some ⟨b, 0, none⟩)] 74 (0, 0))
  have hN : NetR (w1.alloc (.cells #[.pointer (some ⟨b, 0, none⟩)] 74 (0, 0))) (fun k => w.heap.size ≤ k ∧ k < (w1.alloc (.cells #[.pointer (some ⟨b, 0, none⟩)] 74 (0, 0))).heap.size) w1.heap.size b (.slice none 0 0) [] [] :=
    ⟨hR, hB.keep ka (fun f => f) (fun _ _ f => f), GoodL.nil, rfl, by simp, by simp, by omega, nofun, ⟨hs, lt_of_heap hR⟩, ⟨hb, by have := ka.size; omega⟩, nofun, fun k hk => hk.2⟩
  have HN := Lib.hid hN; have K := Lib.hid (hk.trans' ka)
  clear hN hR hB hk ka hlt hs
  go_wp2_with fail
  go_ret
  exact ⟨_, _, rfl, ⟨_, _, _, HN.out⟩, K.out, fun k hk => hk.1⟩
theorem netlen_any (F : Nat → Prop) (nb : Nat) (ps : List PackV) (w : World) (h : NetW w F nb ps) :
    Calls Tryz.prog 26 #[.pointer (some ⟨nb, 0, none⟩)] w fun e w' => e = .returned (.int .i64 (ps.length : Nat)) ∧ w' = w := by
  obtain ⟨b, v, l, h⟩ := h
  obtain ⟨b1, b2, b3⟩ := h.bounds
  have hl := lenS_any b _ #[] v l w h.bag b1 b2
  rw [b3] at hl
  have c0 := cell_of_heap h.row 0
  simp at c0
  have HL := Lib.hid hl
  generalize ps.length = N at HL ⊢
  clear hl h b1 b2 b3
  go_enter Tryz.func26, Tryz.ntmps26
  go_wp2_with fail
  refine HL.out.mono ?_
  rintro e w' ⟨rfl, rfl⟩
  go_wp2_with fail
  go_ret
  exact ⟨rfl, rfl⟩
theorem eqSl (a : Option Addr) (n cp : Nat) (w : World) : (binOp .eql 24 (.slice a n cp) (.slice none 0 0)).run Tryz.prog w = .ok (.bool a.isNone) w := Lib.run_eql_slice_nil w 24 5 a n cp 0 0 Tryz.underlying24
def SendPost (w : World) (F : Nat → Prop) (nb : Nat) (p : PackV) (ps : List PackV) (e : Ending) (w' : World) : Prop :=
  e = .returned (.bool (sentB p ps)) ∧ NetW w' (Wid F w w') nb (sendP p ps) ∧ Keep F w w'
set_option maxHeartbeats 1000000 in
set_option maxRecDepth 8000 in
theorem send_bad (F : Nat → Prop) (nb : Nat) (p : PackV) (ps : List PackV) (w : World) (h : NetW w F nb ps) (hp : p.Ok) (hb : packB p = false) :
    Calls Tryz.prog 21 #[.pointer (some ⟨nb, 0, none⟩), packVal p] w (SendPost w F nb p ps) := by
  have hs : sentB p ps = false := by unfold sentB; rw [hb]; rfl
  have hs2 : sendP p ps = ps := by unfold sendP; rw [hs]; rfl
  have HE := Lib.hid (fun W => wenc_bad p W hp hb)
  have H := Lib.hid h; have HS := Lib.hid hs; have HS2 := Lib.hid hs2
  clear h hs hs2 hp hb
  obtain ⟨k, f, t, d, n, y⟩ := p
  unfold packVal at HE ⊢
  simp only at HE ⊢
  go_enter Tryz.func21, Tryz.ntmps21
  go_wp2_with fail
  refine (HE.out _).mono ?_
  rintro e w1 ⟨rfl, hk1⟩
  have K1 := Lib.hid ((keep_alloc w _).trans' hk1); clear hk1
  have heq := eqSl none 0 0 w1
  simp only [Option.isNone_none] at heq
  go_wp2_with fail
  go_ret
  exact ⟨by rw [HS.out]; rfl, by rw [HS2.out]; exact (H.out.keep K1.out (fun _ _ f => f)).wid, K1.out.mono fun _ _ f => f.elim⟩
set_option maxHeartbeats 2000000 in
set_option maxRecDepth 8000 in
theorem send_full (F : Nat → Prop) (nb : Nat) (p : PackV) (ps : List PackV) (w : World) (h : NetW w F nb ps) (hp : p.Ok) (hb : packB p = true) (hf : ¬ ps.length < 400) :
    Calls Tryz.prog 21 #[.pointer (some ⟨nb, 0, none⟩), packVal p] w (SendPost w F nb p ps) := by
  have hs : sentB p ps = false := by unfold sentB; rw [hb]; simp; omega
  have hs2 : sendP p ps = ps := by unfold sendP; rw [hs]; rfl
  have HE := Lib.hid (fun W => wenc_ok p W hp hb)
  have hwl := wireB_length p
  have H := Lib.hid h; have HS := Lib.hid hs; have HS2 := Lib.hid hs2; have HWL := Lib.hid hwl
  clear h hs hs2 hp hb hwl
  obtain ⟨k, f, t, d, n, y⟩ := p
  unfold packVal at HE ⊢
  simp only at HE ⊢
  go_enter Tryz.func21, Tryz.ntmps21
  go_wp2_with fail
  refine (HE.out _).mono ?_
  rintro e w1 ⟨v, rfl, hv, hk1, hvn⟩
  obtain ⟨ao, cp, rfl, hsl, hbo⟩ := hv.slb
  rw [HWL.out]
  obtain ⟨g, o, rfl, _⟩ := hsl.2.2 0 (by rw [HWL.out]; omega)
  have K1 := Lib.hid ((keep_alloc w _).trans' hk1)
  have HN := Lib.hid (H.out.keep K1.out (fun _ _ f => f))
  clear hk1 hsl hbo hv hvn
  have HLEN := Lib.hid (netlen_any F nb ps w1 HN.out)
  obtain ⟨L, hL⟩ : ∃ L, ps.length = L := ⟨_, rfl⟩
  rw [hL] at HLEN hf
  clear hL
  have heq := eqSl (some ⟨g, o, none⟩) 21 cp w1
  simp only [Option.isNone_some] at heq
  have hd : decide ((400 : Int) ≤ L) = true := by simp; omega
  have hi : (400 : Int) ≤ L := by omega
  go_wp2_with fail
  refine HLEN.out.mono ?_
  rintro e w2 ⟨rfl, hw⟩
  obtain rfl : w1 = w2 := hw.symm
  go_wp2_with fail
  go_ret
  exact ⟨by rw [HS.out]; rfl, by rw [HS2.out]; exact HN.out.wid, K1.out.mono fun _ _ f => f.elim⟩
set_option maxHeartbeats 4000000 in
set_option maxRecDepth 8000 in
theorem send_in (F : Nat → Prop) (nb : Nat) (p : PackV) (ps : List PackV) (w : World) (h : NetW w F nb ps) (hp : p.Ok) (hb : packB p = true) (hf : ps.length < 400) :
    Calls Tryz.prog 21 #[.pointer (some ⟨nb, 0, none⟩), packVal p] w (SendPost w F nb p ps) := by
  have hs : sentB p ps = true := by unfold sentB; rw [hb]; simp; omega
  have hs2 : sendP p ps = insP p ps := by unfold sendP; rw [hs]; rfl
  have HE := Lib.hid (fun W => wenc_ok p W hp hb)
  have hwl := wireB_length p
  obtain ⟨b, vb, l, h⟩ := h
  obtain ⟨b1, b2, b3⟩ := h.bounds
  have HAD : Hid (∀ W, NetR W F nb b vb l ps → Calls Tryz.prog 47 #[.pointer (some ⟨b, 0, none⟩), .string (encP p), .int .i64 1] W (AddWS cmpS W b 46 #[] vb l (encP p) 1)) :=
    Lib.hid fun W hW => addCS_any b vb l (encP p) 1 W hW.bag b1 (sort_monoS cmpS_key hW.good.srt hW.good.ok (encP_ok p)) b2 (by decide)
  have HPL : Hid (GoodL (addWS cmpS l (encP p) 1) ∧ expS (addWS cmpS l (encP p) 1) = (insP p ps).map encP ∧ (∀ q ∈ insP p ps, GoodP q) ∧ (insP p ps).length ≤ 400) := Lib.hid
    ⟨add_good h.good (encP_ok p) 1, by rw [add_one h.good (encP_ok p), ins_map, h.exp], insP_good ⟨hp, hb⟩ h.gp, by rw [insP_length]; omega⟩
  have H := Lib.hid h; have HS := Lib.hid hs; have HS2 := Lib.hid hs2; have HWL := Lib.hid hwl
  clear h hs hs2 hp hb hwl b1 b2 b3
  have henc : encP p = bstr (wireB p) := rfl
  rw [henc] at HAD HPL
  obtain ⟨k, f, t, d, n, y⟩ := p
  unfold packVal at HE ⊢
  simp only at HE ⊢
  obtain ⟨A, hA⟩ : ∃ A, wireB (⟨k, f, t, d, n, y⟩ : PackV) = A := ⟨_, rfl⟩
  rw [hA] at HE HAD HPL HWL
  clear henc hA
  go_enter Tryz.func21, Tryz.ntmps21
  go_wp2_with fail
  refine (HE.out _).mono ?_
  rintro e w1 ⟨v, rfl, hv, hk1, hvn⟩
  obtain ⟨ao, cp, rfl, hsl, hbo⟩ := hv.slb
  have HSL := Lib.hid hsl
  obtain ⟨g, o, rfl, _⟩ := hsl.2.2 0 (by rw [HWL.out]; omega)
  rw [HWL.out]
  have K1 := Lib.hid ((keep_alloc w _).trans' hk1)
  have HN := Lib.hid (H.out.keep K1.out (fun _ _ f => f))
  have hvn2 := hvn g rfl
  have HVN := Lib.hid hvn2
  clear hk1 hsl hbo hv hvn hvn2
  have HLEN := Lib.hid (netlen_any F nb ps w1 ⟨b, vb, l, HN.out⟩)
  obtain ⟨L, hL⟩ : ∃ L, ps.length = L := ⟨_, rfl⟩
  rw [hL] at HLEN hf
  clear hL
  have heq := eqSl (some ⟨g, o, none⟩) 21 cp w1
  simp only [Option.isNone_some] at heq
  have hd : decide ((400 : Int) ≤ L) = false := by simp; omega
  have hi : ¬ (400 : Int) ≤ L := by omega
  go_wp2_with fail
  refine HLEN.out.mono ?_
  rintro e w2 ⟨rfl, hw⟩
  obtain rfl : w1 = w2 := hw.symm
  go_upto_region 4 with fail
  have HGW : Hid (w.heap.size ≤ g ∧ g < w1.heap.size) := Lib.hid ⟨by have := HVN.out; simp at this; omega, by
    obtain ⟨g', o', e, hc⟩ := HSL.out.2.2 0 (by rw [HWL.out]; omega)
    obtain ⟨rfl, rfl⟩ : g = g' ∧ o = o' := by cases e; exact ⟨rfl, rfl⟩
    exact World.block_lt_of_cell? w1 _ hc⟩
  have HC : Hid (∀ W : World, W.heap[nb]? = w1.heap[nb]? → W.heap[g]? = w1.heap[g]? → W.cell? ⟨nb, 0, none⟩ = some (.pointer (some ⟨b, 0, none⟩)) ∧ (convert 24 9 (.slice (some ⟨g, o, none⟩) 21 cp)).run Tryz.prog W = .ok (.string (bstr A)) W) := Lib.hid fun W h1 h2 => by
    constructor
    · have e := h1.trans HN.out.row
      rw [cell_of_heap e]; rfl
    · refine conv_at ⟨HSL.out.1, HSL.out.2.1, fun i hi => ?_⟩ HWL.out
      obtain ⟨g', o', e, hc⟩ := HSL.out.2.2 i hi
      obtain ⟨rfl, rfl⟩ : g = g' ∧ o = o' := by cases e; exact ⟨rfl, rfl⟩
      refine ⟨g, o, rfl, ?_⟩
      rw [World.cell?_of_block (w := w1) h2]
      exact hc
  have hk0 := HC.out w1.drew rfl rfl
  have HK0 := Lib.hid hk0
  clear hk0
  refine wp_region_noPanic ?_
  refine wp_region_held_drew (S := (fun W' : World => W'.cell? ⟨nb, 0, none⟩ = some (.pointer (some ⟨b, 0, none⟩)) ∧ (convert 24 9 (.slice (some ⟨g, o, none⟩) 21 cp)).run Tryz.prog W' = .ok (.string (bstr A)) W')) (by kernel_rfl) (HK0.out) (fun hHeld => ?_)
  refine wpAnyH_take (i := 0) (oi := ?o0) (v := ?v0) ?hi0 (by kernel_rfl) (by kernel_rfl) (by kernel_rfl) (fun _ _ _ h => h) (Or.inl ⟨?w0, ?y0⟩) (by assumption) ?r0
  case hi0 => (simp only [List.getElem?_toArray, List.getElem?_cons_zero]; try rfl)
  case w0 => rfl
  case y0 => (intro w hSw; (try dsimp only at hSw); go_simp; (try with_reducible rfl))
  (try simp only [Act.put, List.setIfInBounds_toArray, List.set_cons_zero, List.set_cons_succ])
  refine wpAnyH_take (i := 1) (oi := ?o1) (v := ?v1) ?hi1 (by kernel_rfl) (by kernel_rfl) (by kernel_rfl) (fun _ _ _ h => h) (Or.inl ⟨?w1, ?y1⟩) (by assumption) ?r1
  case hi1 => (simp only [List.getElem?_toArray, List.getElem?_cons_succ, List.getElem?_cons_zero]; try rfl)
  case w1 => rfl
  case y1 => (intro w hSw; (try dsimp only at hSw); go_simp; (try with_reducible rfl))
  (try simp only [Act.put, List.setIfInBounds_toArray, List.set_cons_zero, List.set_cons_succ])
  refine wpAnyH_take (i := 2) (oi := ?o2) (v := ?v2) ?hi2 (by kernel_rfl) (by kernel_rfl) (by kernel_rfl) (fun _ _ _ h => h) (Or.inl ⟨?w2, ?y2⟩) (by assumption) ?r2
  case hi2 => (simp only [List.getElem?_toArray, List.getElem?_cons_succ, List.getElem?_cons_zero]; try rfl)
  case w2 => rfl
  case y2 => (intro w hSw; (try dsimp only at hSw); go_simp; (try with_reducible rfl))
  (try simp only [Act.put, List.setIfInBounds_toArray, List.set_cons_zero, List.set_cons_succ])
  refine wpAnyH_take (i := 3) (oi := ?o3) (v := ?v3) ?hi3 (by kernel_rfl) (by kernel_rfl) (by kernel_rfl) (fun _ _ _ h => h) (Or.inl ⟨?w3, ?y3⟩) (by assumption) ?r3
  case hi3 => (simp only [List.getElem?_toArray, List.getElem?_cons_succ, List.getElem?_cons_zero]; try rfl)
  case w3 => rfl
  case y3 => (intro w hSw; (try dsimp only at hSw); go_simp; (try with_reducible rfl))
  (try simp only [Act.put, List.setIfInBounds_toArray, List.set_cons_zero, List.set_cons_succ])
  refine wpAnyH_take (i := 4) (oi := ?o4) (v := ?v4) ?hi4 (by kernel_rfl) (by kernel_rfl) (by kernel_rfl) (fun _ _ _ h => h) (Or.inl ⟨?w4, ?y4⟩) (by assumption) ?r4
  case hi4 => (simp only [List.getElem?_toArray, List.getElem?_cons_succ, List.getElem?_cons_zero]; try rfl)
  case w4 => rfl
  case y4 => (intro w hSw; (try dsimp only at hSw); go_simp; (try with_reducible rfl))
  (try simp only [Act.put, List.setIfInBounds_toArray, List.set_cons_zero, List.set_cons_succ])
  refine wpAnyH_take (i := 5) (oi := ?o5) (v := ?v5) ?hi5 (by kernel_rfl) (by kernel_rfl) (by kernel_rfl) (fun _ _ _ h => h) (Or.inl ⟨?w5, ?y5⟩) (by assumption) ?r5
  case hi5 => (simp only [List.getElem?_toArray, List.getElem?_cons_succ, List.getElem?_cons_zero]; try rfl)
  case w5 => rfl
  case y5 => (intro w hSw; (try dsimp only at hSw); go_simp; (try with_reducible rfl))
  (try simp only [Act.put, List.setIfInBounds_toArray, List.set_cons_zero, List.set_cons_succ])
  refine wpAnyH_ready (rs := [6]) (by kernel_rfl) (by simp) ?_
  refine AllReadyH.cons (o := ?o6) ?hi6 (fun K hK => ?_) AllReadyH.nil
  case hi6 => (simp only [List.getElem?_toArray, List.getElem?_cons_succ, List.getElem?_cons_zero]; try rfl)
  go_simp
  (go_at_call 47; refine (HAD.out _ (HN.out.keep (Keep.refl NoF w1).drew (fun _ _ f => f))).mono ?_; rintro e w3 ⟨v3, rfl, hB3, hk3, hf3⟩; have HR := Lib.hid ((HN.out.keep (Keep.refl NoF w1).drew (fun _ _ f => f)).add hB3 hk3 hf3 HPL.out.1 HPL.out.2.1 HPL.out.2.2.1 HPL.out.2.2.2); have HQ := Lib.hid (And.intro (hk3.block nb (lt_of_heap HN.out.row) (fun e => e.elim HN.out.nbb HN.out.nv)) (hk3.block g HGW.out.2 (fun e => e.elim (fun e => by have := H.out.lt b H.out.fb; have := HGW.out.1; omega) (fun e => by have := H.out.lt g (H.out.fv g e); have := HGW.out.1; omega)))); clear hB3 hk3 hf3)
  go_wp2_with fail
  refine hK.out _ _ (HC.out _ HQ.out.1 HQ.out.2) (fun hHeld => ?_)
  clear hK K
  (try simp only [Act.put, List.setIfInBounds_toArray, List.set_cons_zero, List.set_cons_succ])
  refine wpAnyH_done (by kernel_rfl) ?_ _
  refine NoPanic.normal ?_
  all_goals
    go_wp2_with fail
    go_ret
    refine ⟨by rw [HS.out]; rfl, ?_, ?_⟩
    · rw [HS2.out]
      obtain ⟨h1, h2⟩ := HR.out
      have s1 := K1.out.size
      have s2 := h2.size
      have e0 : w1.drew.heap.size = w1.heap.size := rfl
      refine ⟨_, _, _, h1.mono_F (G := Wid F w w3) (fun j hj => hj.elim .inl (fun e => .inr ⟨by have e1 := e.1; omega, e.2⟩)) (fun j hj => hj.elim (fun e => by have := H.out.lt j e; omega) (fun e => e.2))⟩
    · exact K1.out.trans (HR.out.2.of_drew) (fun _ _ f => f.elim) (fun _ _ f => f)
theorem send_any (F : Nat → Prop) (nb : Nat) (p : PackV) (ps : List PackV) (w : World) (h : NetW w F nb ps) (hp : p.Ok) :
    Calls Tryz.prog 21 #[.pointer (some ⟨nb, 0, none⟩), packVal p] w (SendPost w F nb p ps) := by
  cases hb : packB p with
  | false => exact send_bad F nb p ps w h hp hb
  | true =>
    by_cases hf : ps.length < 400
    · exact send_in F nb p ps w h hp hb hf
    · exact send_full F nb p ps w h hp hb hf
end Go.Proofs.YtlabhbjampkhpaaGreat
end

section
open Go Go.RowKit Go.Maps Go.Sort Go.Shelf
namespace Go.Proofs.YtlabhbjampkhpaaGreat
theorem cvb (w : World) (l : List UInt8) (n : Nat) (hn : l.length = n) (hm : n ≤ 1000) : ∃ ao cp w2, (convert 9 24 (.string (bstr l))).run Tryz.prog w = .ok (.slice ao n cp) w2 ∧ Keep NoF w w2 ∧ SlB w2 ao cp l ∧ ∀ g, blockOf ao = some g → g < w2.heap.size := by
  have h := Lib.run_convert_string_bytes (P := Tryz.prog) w 9 24 5 (bstr l) Tryz.underlying9 Tryz.underlying24 Tryz.underlying5
  have hs : (bstr l).size = n := by rw [bstr_size, hn]
  rw [hs] at h
  refine ⟨_, _, _, h, ⟨rfl, rfl, rfl, by rw [Lib.bytesWorld_size]; omega, fun k hk _ => Lib.bytesWorld_at_old w _ _ k hk⟩, ⟨by rw [hn]; exact grownCap_ge _ _ _ _, grownCap_le_maxLen _ _ _ _ (by unfold maxLen; omega), fun i hi => ⟨w.heap.size, 0, rfl, ?_⟩⟩, ?_⟩
  · rw [Nat.zero_add, Lib.bytesWorld_cell w _ _ i (by rw [hs, ← hn]; exact hi)]
    simp [bstr, bval, List.getD, hi]
  · intro g hg
    simp [blockOf] at hg
    rw [Lib.bytesWorld_size]; omega
def LookPost (w : World) (ps : List PackV) (i : Int) (e : Ending) (w' : World) : Prop :=
  e = .returned (.tuple #[packVal (lookP ps i), .bool (inP ps i)]) ∧ Keep NoF w w'
set_option maxHeartbeats 2000000 in
set_option maxRecDepth 8000 in
theorem look_out (F : Nat → Prop) (nb : Nat) (ps : List PackV) (i : Int) (w : World) (h : NetW w F nb ps) (hi : -9223372036854775808 ≤ i ∧ i ≤ 9223372036854775807) (hin : inP ps i = false) :
    Calls Tryz.prog 24 #[.pointer (some ⟨nb, 0, none⟩), .int .i64 i] w (LookPost w ps i) := by
  obtain ⟨b, v, l, h⟩ := h
  obtain ⟨b1, b2, b3⟩ := h.bounds
  have HAT := Lib.hid (fun W (hW : NetR W F nb b v l ps) => atS_any b _ #[] v l i W hW.bag b1 b2 hi)
  rw [atS_map h.exp i, (atP_out hin).1] at HAT
  simp only [Option.map_none, Option.getD_none, Option.isSome_none] at HAT
  have HL : Hid (lookP ps i = PackV.zero ∧ inP ps i = false) := Lib.hid ⟨(atP_out hin).2, hin⟩
  have hZ := heap_new w (.cells (pkC 0 0 0 0 0 false) 23 (0, 0))
  have ka := keep_alloc w (.cells (pkC 0 0 0 0 0 false) 23 (0, 0))
  have hn := h.keep ka (fun _ _ f => f)
  clear h b1 b2 b3 hin hi
  go_enter Tryz.func24, Tryz.ntmps24
  go_upto_region 1 with fail
  show Code.wp _ _ _ _ (w.alloc (.cells (pkC 0 0 0 0 0 false) 23 (0, 0)))
  obtain ⟨Z0, hz0⟩ : ∃ Z, w.heap.size = Z := ⟨_, rfl⟩
  rw [hz0] at hZ
  have hz1 : w.heap.size ≤ Z0 := by omega
  generalize w.alloc (.cells (pkC 0 0 0 0 0 false) 23 (0, 0)) = W0 at hZ ka hn ⊢
  rw [hz0]
  have HN := Lib.hid hn; have HZ := Lib.hid hZ; have KA := Lib.hid ka; have HZL := Lib.hid hz1
  have c0 := cell_of_heap hn.row 0
  simp at c0
  clear hn hZ ka hz0 hz1
  go_wp2_with fail
  refine (HAT.out _ HN.out).mono ?_
  rintro e w1 ⟨rfl, hk⟩
  have hZ1 : w1.heap[Z0]? = some (.cells (pkC 0 0 0 0 0 false) 23 (0, 0)) := by rw [hk.block _ (lt_of_heap HZ.out) (fun f => f)]; exact HZ.out
  have HK := Lib.hid (KA.out.trans' hk)
  have HZZ := HZL
  clear hk c0 HN HAT HZ
  have y0 := free_of_heap hZ1 0
  have y1 := free_of_heap hZ1 1
  have y2 := free_of_heap hZ1 2
  have y3 := free_of_heap hZ1 3
  have y4 := free_of_heap hZ1 4
  have y5 := free_of_heap hZ1 5
  have hp6 := pk_set hZ1 HK.out HZZ.out 0 0 0 0 0 false
  have z0 := cell_of_heap hZ1 0
  have z1 := cell_of_heap hZ1 1
  have z2 := cell_of_heap hZ1 2
  have z3 := cell_of_heap hZ1 3
  have z4 := cell_of_heap hZ1 4
  have z5 := cell_of_heap hZ1 5
  simp [pkC] at z0 z1 z2 z3 z4 z5
  have HP6 := Lib.hid hp6
  clear hZ1 hp6
  go_wp2_with fail
  refine bodyPost_ret (results_pk rfl _ _ Z0 _ _ _ rfl HP6.out.1 rfl) rfl ?_
  unfold LookPost
  rw [HL.out.1, HL.out.2]
  exact ⟨rfl, HP6.out.2⟩
set_option maxHeartbeats 4000000 in
set_option maxRecDepth 8000 in
theorem look_in (F : Nat → Prop) (nb : Nat) (ps : List PackV) (i : Int) (w : World) (h : NetW w F nb ps) (hi : -9223372036854775808 ≤ i ∧ i ≤ 9223372036854775807) (hin : inP ps i = true) :
    Calls Tryz.prog 24 #[.pointer (some ⟨nb, 0, none⟩), .int .i64 i] w (LookPost w ps i) := by
  obtain ⟨b, v, l, h⟩ := h
  obtain ⟨b1, b2, b3⟩ := h.bounds
  have HAT := Lib.hid (fun W (hW : NetR W F nb b v l ps) => atS_any b _ #[] v l i W hW.bag b1 b2 hi)
  obtain ⟨hlt, hat, hlk, _⟩ := atP_in hin
  have hgp := h.gp _ (List.getElem_mem hlt)
  rw [atS_map h.exp i, hat] at HAT
  simp only [Option.map_some, Option.getD_some, Option.isSome_some] at HAT
  have HL : Hid (lookP ps i = ps[i.toNat] ∧ inP ps i = true) := Lib.hid ⟨hlk, hin⟩
  generalize ps[i.toNat] = p at HL hgp HAT
  have hdw := dec_wire p hgp.1 hgp.2
  have hwl := wireB_length p
  have henc : encP p = bstr (wireB p) := rfl
  rw [henc] at HAT
  have HDW := Lib.hid hdw; have HWL := Lib.hid hwl
  have hZ := heap_new w (.cells (pkC 0 0 0 0 0 false) 23 (0, 0))
  have ka := keep_alloc w (.cells (pkC 0 0 0 0 0 false) 23 (0, 0))
  have hn := h.keep ka (fun _ _ f => f)
  clear h b1 b2 b3 hin hi hlt hat hlk hgp hdw hwl henc
  obtain ⟨xk, xf, xt, xd, xn, xy⟩ := p
  obtain ⟨A, hA⟩ : ∃ A, wireB (⟨xk, xf, xt, xd, xn, xy⟩ : PackV) = A := ⟨_, rfl⟩
  rw [hA] at HAT HDW HWL
  clear hA
  go_enter Tryz.func24, Tryz.ntmps24
  go_upto_region 1 with fail
  show Code.wp _ _ _ _ (w.alloc (.cells (pkC 0 0 0 0 0 false) 23 (0, 0)))
  obtain ⟨Z0, hz0⟩ : ∃ Z, w.heap.size = Z := ⟨_, rfl⟩
  rw [hz0] at hZ
  have hz1 : w.heap.size ≤ Z0 := by omega
  generalize w.alloc (.cells (pkC 0 0 0 0 0 false) 23 (0, 0)) = W0 at hZ ka hn ⊢
  rw [hz0]
  have HN := Lib.hid hn; have HZ := Lib.hid hZ; have KA := Lib.hid ka; have HZL := Lib.hid hz1
  have c0 := cell_of_heap hn.row 0
  simp at c0
  clear hn hZ ka hz0 hz1
  go_wp2_with fail
  refine (HAT.out _ HN.out).mono ?_
  rintro e w1 ⟨rfl, hk⟩
  have hZ1 : w1.heap[Z0]? = some (.cells (pkC 0 0 0 0 0 false) 23 (0, 0)) := by rw [hk.block _ (lt_of_heap HZ.out) (fun f => f)]; exact HZ.out
  have HK := Lib.hid (KA.out.trans' hk)
  obtain ⟨ao, cp, w2, hcv, hk2, hsl, hbl⟩ := cvb w1 A 21 HWL.out (by decide)
  have HD := Lib.hid (wdec_at ao 21 cp A w2 hsl HWL.out hbl)
  have HK2 := Lib.hid (HK.out.trans' hk2)
  have hZ2 : w2.heap[Z0]? = some (.cells (pkC 0 0 0 0 0 false) 23 (0, 0)) := by rw [hk2.block _ (lt_of_heap hZ1) (fun f => f)]; exact hZ1
  have HZ2 := Lib.hid hZ2
  clear hk hZ1 HK hk2 hsl hbl hZ2 c0 HN HAT HZ KA
  go_wp2_with fail
  refine HD.out.mono ?_
  rintro e w3 ⟨rfl, hk3⟩
  rw [HDW.out.1, HDW.out.2]
  unfold packVal
  simp only
  have hZ3 : w3.heap[Z0]? = some (.cells (pkC 0 0 0 0 0 false) 23 (0, 0)) := by rw [hk3.block _ (lt_of_heap HZ2.out) (fun f => f)]; exact HZ2.out
  have HK3 := Lib.hid (HK2.out.trans' hk3)
  have HZZ := HZL
  clear hcv HD HK2 HZ2 hk3
  obtain ⟨Y, hY⟩ : ∃ Y, w3.heap.size = Y := ⟨_, rfl⟩
  go_upto_region 7 with fail
  have h6 := heap_new w3 (.cells (pkC xk xf xt xd xn xy) 23 (0, 0))
  rw [hY] at h6
  have hka : Keep NoF w3 (w3.alloc (.cells (pkC xk xf xt xd xn xy) 23 (0, 0))) := keep_alloc _ _
  show Code.wp _ _ _ _ (w3.alloc (.cells (pkC xk xf xt xd xn xy) 23 (0, 0)))
  generalize w3.alloc (.cells (pkC xk xf xt xd xn xy) 23 (0, 0)) = WA at h6 hka ⊢
  have hZ9 : WA.heap[Z0]? = some (.cells (pkC 0 0 0 0 0 false) 23 (0, 0)) := by rw [hka.block _ (lt_of_heap hZ3) (fun f => f)]; exact hZ3
  have y0 := free_of_heap hZ9 0
  have y1 := free_of_heap hZ9 1
  have y2 := free_of_heap hZ9 2
  have y3 := free_of_heap hZ9 3
  have y4 := free_of_heap hZ9 4
  have y5 := free_of_heap hZ9 5
  have hp6 := pk_set hZ9 (HK3.out.trans' hka) HZZ.out xk xf xt xd xn xy
  have z0 := cell_of_heap hZ9 0
  have z1 := cell_of_heap hZ9 1
  have z2 := cell_of_heap hZ9 2
  have z3 := cell_of_heap hZ9 3
  have z4 := cell_of_heap hZ9 4
  have z5 := cell_of_heap hZ9 5
  have q0 := cell_of_heap h6 0
  have q1 := cell_of_heap h6 1
  have q2 := cell_of_heap h6 2
  have q3 := cell_of_heap h6 3
  have q4 := cell_of_heap h6 4
  have q5 := cell_of_heap h6 5
  simp [pkC] at z0 z1 z2 z3 z4 z5 q0 q1 q2 q3 q4 q5
  have HP6 := Lib.hid hp6
  clear hZ9 hp6 h6 hka hZ3 hY
  go_wp2_with fail
  refine bodyPost_ret (results_pk rfl _ _ Z0 _ _ _ rfl HP6.out.1 rfl) rfl ?_
  unfold LookPost
  rw [HL.out.1, HL.out.2]
  exact ⟨rfl, HP6.out.2⟩
theorem look_any (F : Nat → Prop) (nb : Nat) (ps : List PackV) (i : Int) (w : World) (h : NetW w F nb ps) (hi : -9223372036854775808 ≤ i ∧ i ≤ 9223372036854775807) :
    Calls Tryz.prog 24 #[.pointer (some ⟨nb, 0, none⟩), .int .i64 i] w (LookPost w ps i) := by
  cases hin : inP ps i with
  | false => exact look_out F nb ps i w h hi hin
  | true => exact look_in F nb ps i w h hi hin
end Go.Proofs.YtlabhbjampkhpaaGreat
end

section
open Go Go.RowKit Go.Maps Go.Sort Go.Shelf
namespace Go.Proofs.YtlabhbjampkhpaaGreat
theorem erase_map {α β : Type} (f : α → β) : ∀ (l : List α) (i : Nat), (l.map f).eraseIdx i = (l.eraseIdx i).map f
  | [], i => by simp
  | a :: l, 0 => by simp
  | a :: l, i + 1 => by simp [erase_map f l i]
def TakePost (w : World) (F : Nat → Prop) (nb : Nat) (ps : List PackV) (i : Int) (e : Ending) (w' : World) : Prop :=
  e = .returned (.tuple #[packVal (lookP ps i), .bool (inP ps i)]) ∧ NetW w' (Wid F w w') nb (takeP ps i) ∧ Keep F w w'
theorem wid_step {w w2 w3 w4 : World} {F : Nat → Prop} {nb : Nat} {ps : List PackV} (h : NetW w3 (Wid F w2 w3) nb ps) (h1 : w.heap.size ≤ w2.heap.size) (h2 : w3.heap.size ≤ w4.heap.size) (hF : ∀ k, F k → k < w.heap.size) {G : Nat → Prop} (hk : Keep G w3 w4) (hG : ∀ k, Wid F w2 w3 k → ¬ G k) (h3 : w.heap.size ≤ w4.heap.size) : NetW w4 (Wid F w w4) nb ps := by
  obtain ⟨b, v, l, h⟩ := h
  exact ⟨b, v, l, (h.keep hk hG).mono_F (fun k e => e.elim .inl (fun e => .inr ⟨by omega, by omega⟩)) (fun k e => e.elim (fun e => by have := hF k e; omega) (fun e => e.2))⟩
set_option maxHeartbeats 4000000 in
set_option maxRecDepth 8000 in
theorem take_no (q : Option Addr) (i : Int) (w : World) (hL : ∀ W, Keep NoF w W → Calls Tryz.prog 24 #[.pointer q, .int .i64 i] W fun e w' => e = .returned (.tuple #[packVal PackV.zero, .bool false]) ∧ Keep NoF W w') :
    Calls Tryz.prog 25 #[.pointer q, .int .i64 i] w fun e w' => e = .returned (.tuple #[packVal PackV.zero, .bool false]) ∧ Keep NoF w w' := by
  have HLK0 : Hid (∀ W, Keep NoF w W → Calls Tryz.prog 24 #[.pointer q, .int .i64 i] W fun e w' => e = .returned (.tuple #[.agg #[.int .i64 0, .int .i64 0, .int .i64 0, .int .i64 0, .int .i64 0, .bool false], .bool false]) ∧ Keep NoF W w') := Lib.hid hL
  clear hL
  go_enter Tryz.func25, Tryz.ntmps25
  go_upto_region 1 with fail
  show Code.wp _ _ _ _ (w.alloc (.cells (pkC 0 0 0 0 0 false) 23 (0, 0)))
  have hZ := heap_new w (.cells (pkC 0 0 0 0 0 false) 23 (0, 0))
  have ka := keep_alloc w (.cells (pkC 0 0 0 0 0 false) 23 (0, 0))
  have hsz : (w.alloc (.cells (pkC 0 0 0 0 0 false) 23 (0, 0))).heap.size = w.heap.size + 1 := by simp
  obtain ⟨Z, hz0⟩ : ∃ Z, w.heap.size = Z := ⟨_, rfl⟩
  rw [hz0] at hZ hsz
  generalize w.alloc (.cells (pkC 0 0 0 0 0 false) 23 (0, 0)) = W0 at hZ ka hsz ⊢
  rw [hz0]
  have HZ := Lib.hid hZ; have KA := Lib.hid ka; have HZL := Lib.hid hz0; have HSZ := Lib.hid hsz
  clear hZ ka hz0 hsz
  go_wp2_with fail
  refine (HLK0.out W0 KA.out).mono ?_
  rintro e w1 ⟨rfl, hk⟩
  have hZ1 : w1.heap[Z]? = some (.cells (pkC 0 0 0 0 0 false) 23 (0, 0)) := by rw [hk.block _ (lt_of_heap HZ.out) (fun f => f)]; exact HZ.out
  have HZ1 := Lib.hid hZ1; have HK := Lib.hid (KA.out.trans' hk)
  have hsx : Z < w1.heap.size := lt_of_heap hZ1
  have HSX := Lib.hid hsx
  clear hk hZ1 hsx
  obtain ⟨X, hX⟩ : ∃ X, w1.heap.size = X := ⟨_, rfl⟩
  go_upto_region 4 with fail
  have h6 := heap_new w1 (.cells (pkC 0 0 0 0 0 false) 23 (0, 0))
  rw [hX] at h6
  have hka : Keep NoF w1 (w1.alloc (.cells (pkC 0 0 0 0 0 false) 23 (0, 0))) := keep_alloc _ _
  show Code.wp _ _ _ _ (w1.alloc (.cells (pkC 0 0 0 0 0 false) 23 (0, 0)))
  generalize w1.alloc (.cells (pkC 0 0 0 0 0 false) 23 (0, 0)) = WA at h6 hka ⊢
  have hZ9 : WA.heap[Z]? = some (.cells (pkC 0 0 0 0 0 false) 23 (0, 0)) := by rw [hka.block _ (lt_of_heap HZ1.out) (fun f => f)]; exact HZ1.out
  have y0 := free_of_heap hZ9 0
  have y1 := free_of_heap hZ9 1
  have y2 := free_of_heap hZ9 2
  have y3 := free_of_heap hZ9 3
  have y4 := free_of_heap hZ9 4
  have y5 := free_of_heap hZ9 5
  have z0 := cell_of_heap hZ9 0
  have z1 := cell_of_heap hZ9 1
  have z2 := cell_of_heap hZ9 2
  have z3 := cell_of_heap hZ9 3
  have z4 := cell_of_heap hZ9 4
  have z5 := cell_of_heap hZ9 5
  have q0 := cell_of_heap h6 0
  have q1 := cell_of_heap h6 1
  have q2 := cell_of_heap h6 2
  have q3 := cell_of_heap h6 3
  have q4 := cell_of_heap h6 4
  have q5 := cell_of_heap h6 5
  simp [pkC] at z0 z1 z2 z3 z4 z5 q0 q1 q2 q3 q4 q5
  have hp6 := pk_set hZ9 (HK.out.trans' hka) (Nat.le_of_eq HZL.out) 0 0 0 0 0 false
  have HP6 := Lib.hid hp6
  clear hZ9 hp6 h6 hka hX
  go_wp2_with fail
  refine bodyPost_ret (results_pk rfl _ _ Z _ _ _ rfl HP6.out.1 rfl) rfl ?_
  exact ⟨rfl, HP6.out.2⟩
theorem take_out (F : Nat → Prop) (nb : Nat) (ps : List PackV) (i : Int) (w : World) (h : NetW w F nb ps) (hi : -9223372036854775808 ≤ i ∧ i ≤ 9223372036854775807) (hin : inP ps i = false) :
    Calls Tryz.prog 25 #[.pointer (some ⟨nb, 0, none⟩), .int .i64 i] w (TakePost w F nb ps i) := by
  refine (take_no (some ⟨nb, 0, none⟩) i w fun W hW => ?_).mono ?_
  · have h1 := look_any F nb ps i W (h.keep hW (fun _ _ f => f)) hi
    unfold LookPost at h1
    rw [(atP_out hin).2, hin] at h1
    exact h1
  · rintro e w' ⟨rfl, hk⟩
    unfold TakePost takeP
    rw [(atP_out hin).2, hin]
    exact ⟨rfl, (h.keep hk (fun _ _ f => f)).wid, hk.mono (fun _ _ f => f.elim)⟩
set_option maxHeartbeats 8000000 in
set_option maxRecDepth 8000 in
theorem take_in (F : Nat → Prop) (nb : Nat) (ps : List PackV) (i : Int) (w : World) (h : NetW w F nb ps) (hi : -9223372036854775808 ≤ i ∧ i ≤ 9223372036854775807) (hin : inP ps i = true) :
    Calls Tryz.prog 25 #[.pointer (some ⟨nb, 0, none⟩), .int .i64 i] w (TakePost w F nb ps i) := by
  obtain ⟨hlt, hat, hlk, hi0⟩ := atP_in hin
  have HLK : Hid (∀ W, NetW W F nb ps → Calls Tryz.prog 24 #[.pointer (some ⟨nb, 0, none⟩), .int .i64 i] W fun e w' => e = .returned (.tuple #[packVal ps[i.toNat], .bool true]) ∧ Keep NoF W w') := Lib.hid fun W hW => by
    have h1 := look_any F nb ps i W hW hi
    unfold LookPost at h1
    rw [hlk, hin] at h1
    exact h1
  obtain ⟨ps', hps'⟩ : ∃ q, ps.eraseIdx i.toNat = q := ⟨_, rfl⟩
  have hp : TakePost w F nb ps i = fun e w' => e = .returned (.tuple #[packVal ps[i.toNat], .bool true]) ∧ NetW w' (Wid F w w') nb ps' ∧ Keep F w w' := by
    unfold TakePost takeP
    rw [hlk, hin, if_pos rfl, hps']
  rw [hp]
  obtain ⟨b, vb, l, h⟩ := h
  obtain ⟨b1, b2, b3⟩ := h.bounds
  have hgp := h.gp _ (List.getElem_mem hlt)
  have hex : (expS l)[i.toNat]? = some (encP ps[i.toNat]) := by rw [h.exp, List.getElem?_map, List.getElem?_eq_getElem hlt]; rfl
  generalize ps[i.toNat] = p at HLK hgp hex ⊢
  have HAD : Hid (∀ W, NetR W F nb b vb l ps → Calls Tryz.prog 47 #[.pointer (some ⟨b, 0, none⟩), .string (encP p), .int .i64 (-1)] W (AddWS cmpS W b 46 #[] vb l (encP p) (-1))) :=
    Lib.hid fun W hW => addCS_any b vb l (encP p) (-1) W hW.bag b1 (sort_monoS cmpS_key hW.good.srt hW.good.ok (encP_ok p)) b2 (by decide)
  have HPL : Hid (GoodL (addWS cmpS l (encP p) (-1)) ∧ expS (addWS cmpS l (encP p) (-1)) = ps'.map encP ∧ (∀ q ∈ ps', GoodP q) ∧ ps'.length ≤ 400) := Lib.hid
    ⟨add_good h.good (encP_ok p) (-1), by rw [add_less h.good (encP_ok p) hex, h.exp, ← hps', erase_map], fun q hq => h.gp q (List.mem_of_mem_eraseIdx (hps' ▸ hq)), by rw [← hps']; exact Nat.le_trans (List.length_eraseIdx_le ..) h.le⟩
  have HE := Lib.hid (fun W => wenc_ok p W hgp.1 hgp.2)
  have hnw : NetW w F nb ps := ⟨b, vb, l, h⟩
  have H := Lib.hid hnw; have HR0 := Lib.hid h
  clear h hi hin hp hnw hlt hat hlk hi0 b1 b2 b3 hgp hex hps'
  have henc : encP p = bstr (wireB p) := rfl
  rw [henc] at HAD HPL
  obtain ⟨xk, xf, xt, xd, xn, xy⟩ := p
  unfold packVal at HE HLK ⊢
  simp only at HE HLK ⊢
  obtain ⟨A, hA⟩ : ∃ A, wireB (⟨xk, xf, xt, xd, xn, xy⟩ : PackV) = A := ⟨_, rfl⟩
  rw [hA] at HE HAD HPL
  clear henc hA
  go_enter Tryz.func25, Tryz.ntmps25
  go_upto_region 1 with fail
  show Code.wp _ _ _ _ (w.alloc (.cells (pkC 0 0 0 0 0 false) 23 (0, 0)))
  have hZ := heap_new w (.cells (pkC 0 0 0 0 0 false) 23 (0, 0))
  have ka := keep_alloc w (.cells (pkC 0 0 0 0 0 false) 23 (0, 0))
  have hsz : (w.alloc (.cells (pkC 0 0 0 0 0 false) 23 (0, 0))).heap.size = w.heap.size + 1 := by simp
  obtain ⟨Z, hz0⟩ : ∃ Z, w.heap.size = Z := ⟨_, rfl⟩
  rw [hz0] at hZ hsz
  generalize w.alloc (.cells (pkC 0 0 0 0 0 false) 23 (0, 0)) = W0 at hZ ka hsz ⊢
  rw [hz0]
  have HZ := Lib.hid hZ; have KA := Lib.hid ka; have HZL := Lib.hid hz0; have HSZ := Lib.hid hsz
  clear hZ ka hz0 hsz
  go_wp2_with fail
  refine (HLK.out W0 (H.out.keep KA.out (fun _ _ f => f))).mono ?_
  rintro e w1 ⟨rfl, hk⟩
  have hZ1 : w1.heap[Z]? = some (.cells (pkC 0 0 0 0 0 false) 23 (0, 0)) := by rw [hk.block _ (lt_of_heap HZ.out) (fun f => f)]; exact HZ.out
  have HZ1 := Lib.hid hZ1; have HK := Lib.hid (KA.out.trans' hk)
  have hsx : Z < w1.heap.size := lt_of_heap hZ1
  have HSX := Lib.hid hsx
  clear hk hZ1 hsx
  obtain ⟨X, hX⟩ : ∃ X, w1.heap.size = X := ⟨_, rfl⟩
  go_upto_region 3 with fail
  have h6 := heap_new w1 (.cells (pkC xk xf xt xd xn xy) 23 (0, 0))
  rw [hX] at h6
  have hka : Keep NoF w1 (w1.alloc (.cells (pkC xk xf xt xd xn xy) 23 (0, 0))) := keep_alloc _ _
  show Code.wp _ _ _ _ (w1.alloc (.cells (pkC xk xf xt xd xn xy) 23 (0, 0)))
  generalize w1.alloc (.cells (pkC xk xf xt xd xn xy) 23 (0, 0)) = WA at h6 hka ⊢
  have hZ9 : WA.heap[Z]? = some (.cells (pkC 0 0 0 0 0 false) 23 (0, 0)) := by rw [hka.block _ (lt_of_heap HZ1.out) (fun f => f)]; exact HZ1.out
  have HX6 := Lib.hid h6; have HZ9 := Lib.hid hZ9; have KW := Lib.hid (HK.out.trans' hka)
  have HN := Lib.hid (HR0.out.keep KW.out (fun _ _ f => f))
  have HXL : Hid (w.heap.size ≤ X ∧ Z ≠ X) := Lib.hid ⟨by have := HK.out.size; omega, by have := HSX.out; omega⟩
  have HC : Hid (∀ W : World, W.heap[nb]? = WA.heap[nb]? → W.heap[X]? = WA.heap[X]? → W.cell? ⟨nb, 0, none⟩ = some (.pointer (some ⟨b, 0, none⟩)) ∧ W.cell? ⟨X, 0, none⟩ = some (.int .i64 xk) ∧ W.cell? ⟨X, 1, none⟩ = some (.int .i64 xf) ∧ W.cell? ⟨X, 2, none⟩ = some (.int .i64 xt) ∧ W.cell? ⟨X, 3, none⟩ = some (.int .i64 xd) ∧ W.cell? ⟨X, 4, none⟩ = some (.int .i64 xn) ∧ W.cell? ⟨X, 5, none⟩ = some (.bool xy)) := Lib.hid fun W h1 h2 => by
    have e1 := h1.trans HN.out.row
    have e2 := h2.trans HX6.out
    refine ⟨?_, ?_, ?_, ?_, ?_, ?_, ?_⟩
    · rw [cell_of_heap e1]; rfl
    all_goals (rw [cell_of_heap e2]; rfl)
  have hk0 := HC.out WA.drew rfl rfl
  have HK0 := Lib.hid hk0
  clear hk0 h6 hZ9 hka hX
  refine wp_region_noPanic ?_
  refine wp_region_held_drew (S := (fun W' : World => W'.cell? ⟨nb, 0, none⟩ = some (.pointer (some ⟨b, 0, none⟩)) ∧ W'.cell? ⟨X, 0, none⟩ = some (.int .i64 xk) ∧ W'.cell? ⟨X, 1, none⟩ = some (.int .i64 xf) ∧ W'.cell? ⟨X, 2, none⟩ = some (.int .i64 xt) ∧ W'.cell? ⟨X, 3, none⟩ = some (.int .i64 xd) ∧ W'.cell? ⟨X, 4, none⟩ = some (.int .i64 xn) ∧ W'.cell? ⟨X, 5, none⟩ = some (.bool xy))) (by kernel_rfl) (HK0.out) (fun hHeld => ?_)
  refine wpAnyH_take (i := 0) (oi := ?o0) (v := ?v0) ?hi0 (by kernel_rfl) (by kernel_rfl) (by kernel_rfl) (fun _ _ _ h => h) (Or.inl ⟨?w0, ?y0⟩) (by assumption) ?r0
  case hi0 => (simp only [List.getElem?_toArray, List.getElem?_cons_zero]; try rfl)
  case w0 => rfl
  case y0 => (intro w hSw; (try dsimp only at hSw); go_simp; (try with_reducible rfl))
  (try simp only [Act.put, List.setIfInBounds_toArray, List.set_cons_zero, List.set_cons_succ])
  refine wpAnyH_take (i := 1) (oi := ?o1) (v := ?v1) ?hi1 (by kernel_rfl) (by kernel_rfl) (by kernel_rfl) (fun _ _ _ h => h) (Or.inl ⟨?w1, ?y1⟩) (by assumption) ?r1
  case hi1 => (simp only [List.getElem?_toArray, List.getElem?_cons_succ, List.getElem?_cons_zero]; try rfl)
  case w1 => rfl
  case y1 => (intro w hSw; (try dsimp only at hSw); go_simp; (try with_reducible rfl))
  (try simp only [Act.put, List.setIfInBounds_toArray, List.set_cons_zero, List.set_cons_succ])
  refine wpAnyH_take (i := 2) (oi := ?o2) (v := ?v2) ?hi2 (by kernel_rfl) (by kernel_rfl) (by kernel_rfl) (fun _ _ _ h => h) (Or.inl ⟨?w2, ?y2⟩) (by assumption) ?r2
  case hi2 => (simp only [List.getElem?_toArray, List.getElem?_cons_succ, List.getElem?_cons_zero]; try rfl)
  case w2 => rfl
  case y2 => (intro w hSw; (try dsimp only at hSw); go_simp; (try with_reducible rfl))
  (try simp only [Act.put, List.setIfInBounds_toArray, List.set_cons_zero, List.set_cons_succ])
  refine wpAnyH_take (i := 3) (oi := ?o3) (v := ?v3) ?hi3 (by kernel_rfl) (by kernel_rfl) (by kernel_rfl) (fun _ _ _ h => h) (Or.inl ⟨?w3, ?y3⟩) (by assumption) ?r3
  case hi3 => (simp only [List.getElem?_toArray, List.getElem?_cons_succ, List.getElem?_cons_zero]; try rfl)
  case w3 => rfl
  case y3 => (intro w hSw; (try dsimp only at hSw); go_simp; (try with_reducible rfl))
  (try simp only [Act.put, List.setIfInBounds_toArray, List.set_cons_zero, List.set_cons_succ])
  refine wpAnyH_take (i := 4) (oi := ?o4) (v := ?v4) ?hi4 (by kernel_rfl) (by kernel_rfl) (by kernel_rfl) (fun _ _ _ h => h) (Or.inl ⟨?w4, ?y4⟩) (by assumption) ?r4
  case hi4 => (simp only [List.getElem?_toArray, List.getElem?_cons_succ, List.getElem?_cons_zero]; try rfl)
  case w4 => rfl
  case y4 => (intro w hSw; (try dsimp only at hSw); go_simp; (try with_reducible rfl))
  (try simp only [Act.put, List.setIfInBounds_toArray, List.set_cons_zero, List.set_cons_succ])
  refine wpAnyH_ready (rs := [5]) (by kernel_rfl) (by simp) ?_
  refine AllReadyH.cons (o := ?o5) ?hi5 (fun K hK => ?_) AllReadyH.nil
  case hi5 => (simp only [List.getElem?_toArray, List.getElem?_cons_succ, List.getElem?_cons_zero]; try rfl)
  go_simp
  (go_at_call 15; refine (HE.out _).mono ?_; rintro e w2 ⟨v9, rfl, hv9, hk2, hg9⟩; obtain ⟨ao9, cp9, rfl, hs9, _⟩ := hv9.slb; have K2 : Hid (Keep NoF WA w2) := Lib.hid hk2.of_drew; have hvc := conv_at hs9 rfl; have HQ2 := Lib.hid (And.intro (K2.out.block nb (lt_of_heap HN.out.row) (fun f => f)) (K2.out.block X (lt_of_heap HX6.out) (fun f => f))); have HN2 := Lib.hid (HN.out.keep K2.out (fun _ _ f => f)); clear hs9 hv9 hk2 hg9)
  go_wp2_with fail
  refine hK.out _ _ (HC.out _ HQ2.out.1 HQ2.out.2) (fun hHeld => ?_)
  clear hK K
  (try simp only [Act.put, List.setIfInBounds_toArray, List.set_cons_zero, List.set_cons_succ])
  refine wpAnyH_ready (rs := [6]) (by kernel_rfl) (by simp) ?_
  refine AllReadyH.cons (o := ?o6) ?hi6 (fun K hK => ?_) AllReadyH.nil
  case hi6 => (simp only [List.getElem?_toArray, List.getElem?_cons_succ, List.getElem?_cons_zero]; try rfl)
  go_simp
  refine hK.out _ _ (HC.out _ HQ2.out.1 HQ2.out.2) (fun hHeld => ?_)
  clear hK K
  (try simp only [Act.put, List.setIfInBounds_toArray, List.set_cons_zero, List.set_cons_succ])
  refine wpAnyH_ready (rs := [7]) (by kernel_rfl) (by simp) ?_
  refine AllReadyH.cons (o := ?o7) ?hi7 (fun K hK => ?_) AllReadyH.nil
  case hi7 => (simp only [List.getElem?_toArray, List.getElem?_cons_succ, List.getElem?_cons_zero]; try rfl)
  go_simp
  (go_at_call 47; refine (HAD.out _ HN2.out).mono ?_; rintro e w3 ⟨v3, rfl, hB3, hk3, hf3⟩; have hr := HN2.out.add hB3 hk3 hf3 HPL.out.1 HPL.out.2.1 HPL.out.2.2.1 HPL.out.2.2.2; have HR := Lib.hid hr; have HQ := Lib.hid (And.intro ((hk3.block nb (lt_of_heap HN2.out.row) (fun e => e.elim HN2.out.nbb HN2.out.nv)).trans HQ2.out.1) (And.intro ((hr.2.block X (by have := lt_of_heap HX6.out; have := K2.out.size; omega) (fun e => by have := HR0.out.lt X e; have := HXL.out.1; omega)).trans HQ2.out.2) ((hr.2.block Z (by have := lt_of_heap HZ9.out; have := K2.out.size; omega) (fun e => by have := HR0.out.lt Z e; have := HZL.out; omega)).trans (K2.out.block Z (lt_of_heap HZ9.out) (fun f => f))))); clear hB3 hk3 hf3 hr hvc)
  go_wp2_with fail
  refine hK.out _ _ (HC.out _ HQ.out.1 HQ.out.2.1) (fun hHeld => ?_)
  clear hK K
  (try simp only [Act.put, List.setIfInBounds_toArray, List.set_cons_zero, List.set_cons_succ])
  refine wpAnyH_done (by kernel_rfl) ?_ _
  refine NoPanic.normal ?_
  all_goals
    have hZ3 : w3.heap[Z]? = some (.cells (pkC 0 0 0 0 0 false) 23 (0, 0)) := HQ.out.2.2.trans HZ9.out
    have hX3 : w3.heap[X]? = some (.cells (pkC xk xf xt xd xn xy) 23 (0, 0)) := HQ.out.2.1.trans HX6.out
    have y0 := free_of_heap hZ3 0
    have y1 := free_of_heap hZ3 1
    have y2 := free_of_heap hZ3 2
    have y3 := free_of_heap hZ3 3
    have y4 := free_of_heap hZ3 4
    have y5 := free_of_heap hZ3 5
    have z0 := cell_of_heap hZ3 0
    have z1 := cell_of_heap hZ3 1
    have z2 := cell_of_heap hZ3 2
    have z3 := cell_of_heap hZ3 3
    have z4 := cell_of_heap hZ3 4
    have z5 := cell_of_heap hZ3 5
    have q0 := cell_of_heap hX3 0
    have q1 := cell_of_heap hX3 1
    have q2 := cell_of_heap hX3 2
    have q3 := cell_of_heap hX3 3
    have q4 := cell_of_heap hX3 4
    have q5 := cell_of_heap hX3 5
    simp [pkC] at z0 z1 z2 z3 z4 z5 q0 q1 q2 q3 q4 q5
    have hp6 := set6 hZ3 (.int .i64 xk) (.int .i64 xf) (.int .i64 xt) (.int .i64 xd) (.int .i64 xn) (.bool xy)
    have HP6 := Lib.hid hp6
    clear hZ3 hX3 hp6
    go_wp2_with fail
    refine bodyPost_ret (results_pk rfl _ _ Z _ _ _ rfl HP6.out.1 rfl) rfl ?_
    have s1 := KW.out.size; have s2 := K2.out.size; have s3 := HR.out.2.size; have s4 := HP6.out.2.size
    have s5 := HZL.out; have s6 := lt_of_heap HZ9.out
    refine ⟨rfl, wid_step ⟨_, _, _, HR.out.1⟩ (by omega) s4 HR0.out.lt HP6.out.2 (fun k e e2 => ?_) (by omega), ?_⟩
    · subst e2
      rcases e with e | e
      · have := HR0.out.lt k e; omega
      · omega
    · exact ((KW.out.trans' K2.out).trans HR.out.2 (fun _ _ f => f.elim) (fun _ _ f => f)).trans HP6.out.2 (fun _ _ f => f) (fun k hk e => by omega)
theorem take_any (F : Nat → Prop) (nb : Nat) (ps : List PackV) (i : Int) (w : World) (h : NetW w F nb ps) (hi : -9223372036854775808 ≤ i ∧ i ≤ 9223372036854775807) :
    Calls Tryz.prog 25 #[.pointer (some ⟨nb, 0, none⟩), .int .i64 i] w (TakePost w F nb ps i) := by
  cases hin : inP ps i with
  | false => exact take_out F nb ps i w h hi hin
  | true => exact take_in F nb ps i w h hi hin
end Go.Proofs.YtlabhbjampkhpaaGreat
end

section
open Go Go.RowKit Go.Maps Go.Sort Go.Shelf
namespace Go.Proofs.YtlabhbjampkhpaaGreat
def TwicePost (w : World) (F : Nat → Prop) (nb : Nat) (ps : List PackV) (i : Int) (e : Ending) (w' : World) : Prop :=
  e = .returned (.bool (twiceB ps i)) ∧ NetW w' (Wid F w w') nb (twiceP ps i) ∧ Keep F w w'
set_option maxHeartbeats 2000000 in
set_option maxRecDepth 8000 in
theorem twice_no (q : Option Addr) (i : Int) (w : World) (hL : ∀ W, Keep NoF w W → Calls Tryz.prog 24 #[.pointer q, .int .i64 i] W fun e w' => e = .returned (.tuple #[packVal PackV.zero, .bool false]) ∧ Keep NoF W w') :
    Calls Tryz.prog 23 #[.pointer q, .int .i64 i] w fun e w' => e = .returned (.bool false) ∧ Keep NoF w w' := by
  have HLK : Hid (∀ W, Keep NoF w W → Calls Tryz.prog 24 #[.pointer q, .int .i64 i] W fun e w' => e = .returned (.tuple #[.agg #[.int .i64 0, .int .i64 0, .int .i64 0, .int .i64 0, .int .i64 0, .bool false], .bool false]) ∧ Keep NoF W w') := Lib.hid hL
  clear hL
  go_enter Tryz.func23, Tryz.ntmps23
  go_wp2_with fail
  refine (HLK.out w (Keep.refl _ _)).mono ?_
  rintro e w1 ⟨rfl, hk⟩
  have HK := Lib.hid hk
  clear hk
  go_wp2_with fail
  go_ret
  exact ⟨rfl, HK.out.alloc _⟩
set_option maxHeartbeats 2000000 in
set_option maxRecDepth 8000 in
theorem twice_in (F : Nat → Prop) (nb : Nat) (ps : List PackV) (i : Int) (w : World) (h : NetW w F nb ps) (hi : -9223372036854775808 ≤ i ∧ i ≤ 9223372036854775807) (hin : inP ps i = true) :
    Calls Tryz.prog 23 #[.pointer (some ⟨nb, 0, none⟩), .int .i64 i] w (TwicePost w F nb ps i) := by
  obtain ⟨hlt, hat, hlk, hi0⟩ := atP_in hin
  have hgp := h.good.1 _ (List.getElem_mem hlt)
  have HLK : Hid (∀ W, NetW W F nb ps → Calls Tryz.prog 24 #[.pointer (some ⟨nb, 0, none⟩), .int .i64 i] W fun e w' => e = .returned (.tuple #[packVal ps[i.toNat], .bool true]) ∧ Keep NoF W w') := Lib.hid fun W hW => by
    have h1 := look_any F nb ps i W hW hi
    unfold LookPost at h1
    rw [hlk, hin] at h1
    exact h1
  have HSN : Hid (∀ W, NetW W F nb ps → Calls Tryz.prog 21 #[.pointer (some ⟨nb, 0, none⟩), packVal ps[i.toNat]] W (SendPost W F nb ps[i.toNat] ps)) := Lib.hid fun W hW => send_any F nb _ ps W hW hgp.1
  have hq : twiceB ps i = sentB ps[i.toNat] ps := by unfold twiceB sentB; rw [hin, hgp.2]
  have hq2 : twiceP ps i = sendP ps[i.toNat] ps := by unfold twiceP sendP; rw [hq, hlk]
  have HQ := Lib.hid hq; have HQ2 := Lib.hid hq2; have H := Lib.hid h
  have HLT : Hid (∀ k, F k → k < w.heap.size) := by obtain ⟨b, v, l, h⟩ := h; exact Lib.hid h.lt
  generalize ps[i.toNat] = p at HLK HSN HQ HQ2
  clear h hi hin hlt hat hlk hi0 hgp hq hq2
  obtain ⟨xk, xf, xt, xd, xn, xy⟩ := p
  unfold packVal at HLK HSN
  simp only at HLK HSN
  go_enter Tryz.func23, Tryz.ntmps23
  go_wp2_with fail
  refine (HLK.out w H.out).mono ?_
  rintro e w1 ⟨rfl, hk⟩
  have HK := Lib.hid hk
  clear hk
  go_wp2_with fail
  refine (HSN.out _ (H.out.keep (HK.out.alloc _) (fun _ _ f => f))).mono ?_
  rintro e w3 ⟨rfl, hn, hk3⟩
  have HN := Lib.hid hn; have HK3 := Lib.hid hk3
  clear hn hk3
  obtain ⟨r, hr⟩ : ∃ r, sentB (⟨xk, xf, xt, xd, xn, xy⟩ : PackV) ps = r := ⟨_, rfl⟩
  rw [hr] at HQ ⊢
  clear hr
  go_wp2_with fail
  go_ret
  have s1 := (HK.out.alloc (.cells #[.int .i64 xk, .int .i64 xf, .int .i64 xt, .int .i64 xd, .int .i64 xn, .bool xy] 23 (0, 0))).size
  have s2 := HK3.out.size
  exact ⟨by rw [HQ.out]; rfl, by rw [HQ2.out]; exact wid_step HN.out s1 (Nat.le_refl _) HLT.out (Keep.refl NoF w3) (fun _ _ f => f) (Nat.le_trans s1 s2), (HK.out.alloc _).trans HK3.out (fun _ _ f => f.elim) (fun _ _ f => f)⟩
theorem twice_any (F : Nat → Prop) (nb : Nat) (ps : List PackV) (i : Int) (w : World) (h : NetW w F nb ps) (hi : -9223372036854775808 ≤ i ∧ i ≤ 9223372036854775807) :
    Calls Tryz.prog 23 #[.pointer (some ⟨nb, 0, none⟩), .int .i64 i] w (TwicePost w F nb ps i) := by
  cases hin : inP ps i with
  | false =>
    refine (twice_no (some ⟨nb, 0, none⟩) i w fun W hW => ?_).mono ?_
    · have h1 := look_any F nb ps i W (h.keep hW (fun _ _ f => f)) hi
      unfold LookPost at h1
      rw [(atP_out hin).2, hin] at h1
      exact h1
    · rintro e w' ⟨rfl, hk⟩
      unfold TwicePost twiceP twiceB
      rw [hin]
      exact ⟨rfl, (h.keep hk (fun _ _ f => f)).wid, hk.mono (fun _ _ f => f.elim)⟩
  | true => exact twice_in F nb ps i w h hi hin
/-- No net. -/
theorem look_nil (i : Int) (w : World) : Calls Tryz.prog 24 #[.pointer none, .int .i64 i] w fun e w' => e = .returned (.tuple #[packVal PackV.zero, .bool false]) ∧ Keep NoF w w' := by
  have hb := heap_new w (.cells (pkC 0 0 0 0 0 false) 23 (0, 0))
  have HB := Lib.hid hb
  have HK := Lib.hid (keep_alloc w (.cells (pkC 0 0 0 0 0 false) 23 (0, 0)))
  clear hb
  go_enter Tryz.func24, Tryz.ntmps24
  go_wp2_with fail
  refine bodyPost_ret (results_pk rfl _ _ w.heap.size _ _ _ rfl HB.out rfl) rfl ?_
  exact ⟨rfl, HK.out⟩
theorem take_nil (i : Int) (w : World) : Calls Tryz.prog 25 #[.pointer none, .int .i64 i] w fun e w' => e = .returned (.tuple #[packVal PackV.zero, .bool false]) ∧ Keep NoF w w' :=
  take_no none i w fun W _ => look_nil i W
theorem twice_nil (i : Int) (w : World) : Calls Tryz.prog 23 #[.pointer none, .int .i64 i] w fun e w' => e = .returned (.bool false) ∧ Keep NoF w w' :=
  twice_no none i w fun W _ => look_nil i W
theorem netlen_nil (w : World) : Calls Tryz.prog 26 #[.pointer none] w fun e w' => e = .returned (.int .i64 0) ∧ w' = w := by
  go_enter Tryz.func26, Tryz.ntmps26
  go_wp2_with fail
  go_ret
  exact ⟨rfl, rfl⟩
set_option maxHeartbeats 1000000 in
set_option maxRecDepth 8000 in
theorem send_nil (p : PackV) (w : World) (hp : GoodP p) :
    Calls Tryz.prog 21 #[.pointer none, packVal p] w fun e w' => e = .returned (.bool false) ∧ Keep NoF w w' := by
  have HE := Lib.hid (fun W => wenc_ok p W hp.1 hp.2)
  clear hp
  obtain ⟨k, f, t, d, n, y⟩ := p
  unfold packVal at HE ⊢
  simp only at HE ⊢
  go_enter Tryz.func21, Tryz.ntmps21
  go_wp2_with fail
  refine (HE.out _).mono ?_
  rintro e w1 ⟨v, rfl, hv, hk1, hvn⟩
  have K1 := Lib.hid ((keep_alloc w _).trans' hk1)
  clear hk1 hvn
  obtain ⟨ao, cp, rfl, hsl, hbo⟩ := hv.slb
  clear hsl hbo hv
  have heq := fun W => eqSl ao (wireB (⟨k, f, t, d, n, y⟩ : PackV)).length cp W
  generalize (wireB (⟨k, f, t, d, n, y⟩ : PackV)).length = m at heq ⊢
  go_wp2_with fail
  go_ret
  exact ⟨rfl, K1.out⟩
end Go.Proofs.YtlabhbjampkhpaaGreat
end
