/- Rows of values of several cells: read, cut, laid anew; no program in sight. -/
import Derived.Test.YtdbgplnjppaimaaGreatKit6
open Go Go.RowKit
namespace Go.Proofs.YtdbgplnjppaimaaGreat
theorem plain_addr {w : World} {x : Addr} {v : Value} (h : w.cell? (x.add 0) = some v) : x = ⟨x.block, x.off, none⟩ := by
  obtain ⟨b, o, sp⟩ := x
  cases sp with
  | none => rfl
  | some s =>
    simp only [Addr.add, if_true, World.cell?] at h
    split at h
    · simp at h
    · cases h
theorem addr_plain {x : Addr} (hx : x = ⟨x.block, x.off, none⟩) (i : Nat) : x.add i = ⟨x.block, x.off + i, none⟩ := by
  rw [hx]
  by_cases hi0 : i = 0
  · subst hi0; simp [Addr.add]
  · simp [Addr.add, hi0]
section
variable {α : Type} {enc : α → List Value} {s : Nat}
theorem flat_length (hs : ∀ a, (enc a).length = s) (l : List α) : (l.flatMap enc).length = l.length * s := by
  induction l with
  | nil => simp
  | cons a l ih => rw [List.flatMap_cons, List.length_append, hs, ih, List.length_cons, Nat.succ_mul, Nat.add_comm]
theorem flat_take (hs : ∀ a, (enc a).length = s) : ∀ (l : List α) (k : Nat), (l.flatMap enc).take (k * s) = (l.take k).flatMap enc
  | [], k => by simp
  | a :: l, 0 => by simp
  | a :: l, k + 1 => by
    rw [List.take_succ_cons, List.flatMap_cons, List.flatMap_cons, show (k + 1) * s = (enc a).length + k * s by rw [hs, Nat.succ_mul, Nat.add_comm], List.take_length_add_append, flat_take hs l k]
theorem flat_drop (hs : ∀ a, (enc a).length = s) : ∀ (l : List α) (k : Nat), (l.flatMap enc).drop (k * s) = (l.drop k).flatMap enc
  | [], k => by simp
  | a :: l, 0 => by simp
  | a :: l, k + 1 => by
    rw [List.drop_succ_cons, List.flatMap_cons, show (k + 1) * s = (enc a).length + k * s by rw [hs, Nat.succ_mul, Nat.add_comm], List.drop_length_add_append, flat_drop hs l k]
theorem flat_get (hs : ∀ a, (enc a).length = s) : ∀ (l : List α) (i : Nat) (hi : i < l.length) (j : Nat), j < s → (l.flatMap enc)[i * s + j]? = (enc l[i])[j]?
  | [], i, hi, j, _ => absurd hi (Nat.not_lt_zero _)
  | a :: l, 0, hi, j, hj => by
    rw [List.flatMap_cons, Nat.zero_mul, Nat.zero_add, List.getElem?_append_left (by rw [hs]; exact hj)]; rfl
  | a :: l, i + 1, hi, j, hj => by
    rw [List.flatMap_cons, List.getElem?_append_right (by rw [hs, Nat.succ_mul]; omega), hs, show (i + 1) * s + j - s = i * s + j by rw [Nat.succ_mul]; omega, flat_get hs l i (by simpa using hi) j hj]
    rfl
/-- A slice of values of s cells each that can be read. -/
def SlK (s : Nat) (enc : α → List Value) (w : World) (ao : Option Addr) (cp : Nat) (l : List α) : Prop :=
  l.length ≤ cp ∧ cp ≤ maxLen ∧ ∀ i (h : i < l.length), ∃ g off, ao = some ⟨g, off, none⟩ ∧ ∀ j v, (enc l[i])[j]? = some v → w.cell? ⟨g, off + i * s + j, none⟩ = some v
theorem SlK.keep {F : Nat → Prop} {w w' : World} {ao : Option Addr} {cp : Nat} {l : List α} (h : SlK s enc w ao cp l) (hk : Keep F w w') (hn : ∀ a, ao = some a → ¬ F a.block) : SlK s enc w' ao cp l := by
  refine ⟨h.1, h.2.1, fun i hi => ?_⟩
  obtain ⟨g, off, rfl, hc⟩ := h.2.2 i hi
  exact ⟨g, off, rfl, fun j v hv => hk.cell' (hc j v hv) (hn ⟨g, off, none⟩ rfl)⟩
theorem addr_addK (g o j : Nat) : (Addr.mk g o none).add j = ⟨g, o + j, none⟩ := by
  by_cases h0 : j = 0 <;> simp [Addr.add, h0]
theorem rowK_cell (hs : ∀ a, (enc a).length = s) {b n cp : Nat} {w : World} {e : TypeId} {ao : Option Addr} {l : List α} (h : w.ownsRow b e s (.slice ao n cp) n (l.flatMap enc)) (hl : l.length = n) (i : Nat) (hi : i < l.length) :
    ∃ g, ao = some ⟨g, 0, none⟩ ∧ ∀ j v, (enc l[i])[j]? = some v → w.cell? ⟨g, i * s + j, none⟩ = some v := by
  subst hl
  rcases h.2 with ⟨e, he⟩ | ⟨g, cap, cur, e, _, hg, hn, hc, hcs, htk⟩
  · omega
  · injection e with e1 e2 e3
    subst e1
    refine ⟨g, rfl, fun j v hv => ?_⟩
    have hj : j < s := by
      rw [← hs l[i]]
      exact (List.getElem?_eq_some_iff.1 hv).1
    have := h.cells (g := g) rfl (i * s + j) v (by rw [flat_get hs l i hi j hj]; exact hv)
    rw [addr_addK, Nat.zero_add] at this
    exact this
theorem rowK_sl (hs : ∀ a, (enc a).length = s) {b n cp : Nat} {w : World} {e : TypeId} {ao : Option Addr} {l : List α} (h : w.ownsRow b e s (.slice ao n cp) n (l.flatMap enc)) (hl : l.length = n) : SlK s enc w ao cp l := by
  refine ⟨?_, ?_, fun i hi => ?_⟩
  · rcases h.2 with ⟨e, he⟩ | ⟨g, cap, cur, e, _, hg, hn, hc, hcs, htk⟩
    · omega
    · injection e with e1 e2 e3; omega
  · rcases h.2 with ⟨e, he⟩ | ⟨g, cap, cur, e, _, hg, hn, hc, hcs, htk⟩
    · injection e with e1 e2 e3; unfold maxLen; omega
    · injection e with e1 e2 e3; omega
  · obtain ⟨g, e, hc⟩ := rowK_cell hs h hl i hi
    exact ⟨g, 0, e, fun j v hv => by rw [Nat.zero_add]; exact hc j v hv⟩
theorem row_cap {b n cp sz : Nat} {w : World} {e : TypeId} {ao : Option Addr} {xs : List Value} (h : w.ownsRow b e sz (.slice ao n cp) n xs) : n ≤ cp ∧ cp ≤ maxLen := by
  rcases h.2 with ⟨e, he⟩ | ⟨g, cap, cur, e, _, hg, hn, hc, hcs, htk⟩
  · injection e with e1 e2 e3; unfold maxLen; omega
  · injection e with e1 e2 e3; omega
/-- l[:k] -/
theorem run_upto {P : Program} {t e : TypeId} (ht : P.underlying t = some (.slice e)) {z : Value} {sz by_ : Nat} (hinfo : (P.info? e).map (fun i => (i.zero, i.size, i.bytes)) = some (some z, sz, by_)) (ao : Option Addr) (n cp k : Nat) (hk : k ≤ cp) (w : World) :
    (Instr.sliceAt t (.slice ao n cp) none (some (.int .i64 k)) none).run P w = .ok (.slice ao k cp) w := by
  obtain ⟨i, hi, hz, hsize, hby⟩ := info_parts hinfo
  have he : P.elem t = e := by simp [Program.elem, ht]
  have ht2 : P.underlying t = some (.slice (P.elem t)) := by rw [he]; exact ht
  rw [run_sliceAt_slice w t _ _ _ _ ht2, run_slice_h w t ao n cp ht2 .i64 (k : Int) (by omega) (by omega), he]
  simp [sizeOf, typeInfo, hi, sliced, Result.andThen, Addr.add]
/-- Where l[k:] begins. -/
def fromA (ao : Option Addr) (k cp sz : Nat) : Option Addr := if cp = k then ao else ao.map (·.add (k * sz))
/-- l[k:] -/
theorem run_from {P : Program} {t e : TypeId} (ht : P.underlying t = some (.slice e)) {z : Value} {sz by_ : Nat} (hinfo : (P.info? e).map (fun i => (i.zero, i.size, i.bytes)) = some (some z, sz, by_)) (ao : Option Addr) (n cp k : Nat) (hk : k ≤ n) (w : World) :
    (Instr.sliceAt t (.slice ao n cp) (some (.int .i64 k)) none none).run P w = .ok (.slice (fromA ao k cp sz) (n - k) (cp - k)) w := by
  obtain ⟨i, hi, hz, hsize, hby⟩ := info_parts hinfo
  have he : P.elem t = e := by simp [Program.elem, ht]
  have ht2 : P.underlying t = some (.slice (P.elem t)) := by rw [he]; exact ht
  rw [run_sliceAt_slice w t _ _ _ _ ht2, run_slice_l w t ao n cp ht2 .i64 (k : Int) (by omega) (by omega), he]
  simp [sizeOf, typeInfo, hi, sliced, Result.andThen, fromA, hsize]
theorem src_upto (hs : ∀ a, (enc a).length = s) (h1 : ∀ a, ∀ u ∈ enc a, u.oneCell' = true) {P : Program} {t e : TypeId} (ht : P.underlying t = some (.slice e)) {b n cp : Nat} {w : World} {e' : TypeId} {ao : Option Addr} {l : List α}
    (h : w.ownsRow b e' s (.slice ao n cp) n (l.flatMap enc)) (hl : l.length = n) (k : Nat) (hk : k ≤ n) (cp' : Nat) : Src P s t (.slice ao k cp') k ((l.take k).flatMap enc) w := by
  rcases h.2 with ⟨e1, e2⟩ | ⟨g, cap, cur, e1, _, hg, _⟩
  · injection e1 with e3 e4 e5
    subst e3
    obtain rfl : k = 0 := by omega
    simpa using Src.ofNil w (size := s) ht cp'
  · injection e1 with e3 e4 e5
    subst e3
    refine Src.ofSlice w ht _ _ _ _ (by rw [flat_length hs, List.length_take, hl, Nat.min_eq_left hk]) (fun j u hu => ?_) (fun u hu => by obtain ⟨a, _, ha⟩ := List.mem_flatMap.1 hu; exact h1 a u ha)
    refine h.cells (g := g) rfl j u ?_
    rw [← flat_take hs] at hu
    have hj := (List.getElem?_eq_some_iff.1 hu).1
    rw [List.length_take] at hj
    rw [List.getElem?_take_of_lt (by omega)] at hu
    exact hu
theorem src_from (hs : ∀ a, (enc a).length = s) (h1 : ∀ a, ∀ u ∈ enc a, u.oneCell' = true) {P : Program} {t e : TypeId} (ht : P.underlying t = some (.slice e)) {b n cp : Nat} {w : World} {e' : TypeId} {ao : Option Addr} {l : List α}
    (h : w.ownsRow b e' s (.slice ao n cp) n (l.flatMap enc)) (hl : l.length = n) (k : Nat) (hk : k ≤ n) (cp' : Nat) : Src P s t (.slice (fromA ao k cp s) (n - k) cp') (n - k) ((l.drop k).flatMap enc) w := by
  rcases h.2 with ⟨e1, e2⟩ | ⟨g, cap, cur, e1, _, hg, hnc, _⟩
  · injection e1 with e3 e4 e5
    subst e3
    obtain rfl : k = 0 := by omega
    subst e2
    have : l = [] := List.eq_nil_of_length_eq_zero hl
    subst this
    have e0 : fromA none 0 cp s = none := by unfold fromA; split <;> rfl
    rw [e0]
    simpa using Src.ofNil w (size := s) ht cp'
  · injection e1 with e3 e4 e5
    subst e3
    unfold fromA
    split
    · rename_i hc
      have e0 : l.drop k = [] := List.drop_eq_nil_of_le (by omega)
      rw [e0, show n - k = 0 by omega]
      exact Src.ofSlice w ht _ _ _ _ (by simp) (fun j u hu => by simp at hu) (by simp)
    · refine Src.ofSlice w ht _ _ _ _ (by rw [flat_length hs, List.length_drop, hl]) (fun j u hu => ?_) (fun u hu => by obtain ⟨a, _, ha⟩ := List.mem_flatMap.1 hu; exact h1 a u ha)
      have h2 := h.cells (g := g) rfl (k * s + j) u (by rw [← flat_drop hs, List.getElem?_drop] at hu; exact hu)
      simp only [addr_addK, Nat.zero_add] at h2 ⊢
      exact h2
/-- A slicing in a region, by what its law says. -/
theorem slice_yields {P : Program} {ρ : Operand → Value} {o : Oper} {t : TypeId} {x : Operand} {lo hi mx : Option Operand} (ho : o.op = .slice t x lo hi mx) {v : Value} {w : World}
    (h : (Instr.sliceAt t (ρ x) (lo.map ρ) (hi.map ρ) (mx.map ρ)).run P w = .ok v w) : (execOp ρ o).run P w = .ok (.value v) w := by
  unfold execOp
  simp only [ho]
  simp [h, Result.andThen]
/-- One more, laid into a block of its own. -/
theorem src_oneK (h1 : ∀ a, ∀ u ∈ enc a, u.oneCell' = true) (hs : ∀ a, (enc a).length = s) {P : Program} {t e : TypeId} (ht : P.underlying t = some (.slice e)) {w : World} {g : Nat} {x : α} {T : TypeId} {fz : Nat × Nat} {cs : Array Value} (hb : w.heap[g]? = some (.cells cs T fz)) (hcs : cs.toList = enc x) (c : Nat) :
    Src P s t (.slice (some ⟨g, 0, none⟩) 1 c) 1 (enc x) w :=
  Src.ofSlice w ht _ _ _ _ (by rw [hs, Nat.one_mul]) (by rw [← hcs]; exact World.news_of_block hb) (h1 x)
end
end Go.Proofs.YtdbgplnjppaimaaGreat
