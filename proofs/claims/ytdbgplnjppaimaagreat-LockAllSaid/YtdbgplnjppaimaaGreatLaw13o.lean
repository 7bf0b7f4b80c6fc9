/- What law13's two great walks share: the steps that come in, rows of several cells of which one cell is turned, 'eq'. -/
import Derived.Test.YtdbgplnjppaimaaGreatLaw13r
import Derived.Lib.SmallJoins
open Go Go.Proofs Go.RowKit Go.Maps Go.Sort Go.Shelf
namespace Go.Proofs.YtdbgplnjppaimaaGreat
/-- One cell of a row is turned. -/
theorem rowRaw_set {E : TypeId} {b n cp s : Nat} {w : World} {ao : Option Addr} {xs : List Value} (h : w.ownsRow b E s (.slice ao n cp) n xs) (i : Nat) (hi : i < xs.length) (u : Value) : ∃ g, ao = some ⟨g, 0, none⟩ ∧ w.frozen? ⟨g, i, none⟩ = false ∧
    (w.setCell ⟨g, i, none⟩ u).ownsRow b E s (.slice ao n cp) n (xs.set i u) ∧ Keep (fun k => k = g) w (w.setCell ⟨g, i, none⟩ u) := by
  rcases h with ⟨h0, ⟨e, he⟩ | ⟨g, cap, cur, e, hb, hg, hn, hcm, hcs, htk⟩⟩
  · injection e with e1 e2 e3
    have : xs.length = 0 := by rw [h0, he, Nat.zero_mul]
    omega
  · injection e with e1 e2 e3
    subst e1 e3
    refine ⟨g, rfl, free_of_heap hg i, ⟨by simpa using h0, .inr ⟨g, cp, cur.setIfInBounds i u, rfl, hb, ?_, hn, hcm, by simpa using hcs, ?_⟩⟩, (Keep.refl (fun k => k = g) w).setCell (p := ⟨g, i, none⟩) (fun _ => rfl) _⟩
    · simp [World.setCell, Array.getElem?_modify, hg]
    · rw [Array.toList_setIfInBounds, List.take_set, htk]
theorem flat_set {α : Type} {enc : α → List Value} {s : Nat} (hs : ∀ a, (enc a).length = s) {a' : α} {j : Nat} {v : Value} (hj : j < s) : ∀ (l : List α) (i : Nat) (hi : i < l.length), enc a' = (enc l[i]).set j v → (l.flatMap enc).set (i * s + j) v = (l.set i a').flatMap enc
  | a :: l, 0, _, h => by
    simp only [List.getElem_cons_zero] at h
    rw [List.set_cons_zero, List.flatMap_cons, List.flatMap_cons, h, Nat.zero_mul, Nat.zero_add, List.set_append_left _ _ (by rw [hs]; exact hj)]
  | a :: l, i + 1, hi, h => by
    rw [List.set_cons_succ, List.flatMap_cons, List.flatMap_cons, List.set_append_right _ _ (by rw [hs, Nat.succ_mul]; omega), hs, show (i + 1) * s + j - s = i * s + j by rw [Nat.succ_mul]; omega, flat_set hs hj l i (by simpa using hi) (by simpa using h)]
theorem setMapG {α : Type} {K : List Int} (h : K.Pairwise (· < ·)) {f f' : Int → α} {k : Nat} (hk : k < K.length) (hf : ∀ x ∈ K, x ≠ K[k] → f' x = f x) : (K.map f).set k (f' K[k]) = K.map f' := by
  refine List.ext_getElem (by simp) fun i h1 h2 => ?_
  simp at h1
  rw [List.getElem_set]
  by_cases e : k = i
  · subst e; simp
  · simp only [e, if_false, List.getElem_map]
    refine (hf _ (List.getElem_mem _) (fun e2 => ?_)).symm
    rcases Nat.lt_or_gt_of_ne e with h3 | h3
    · have := List.pairwise_iff_getElem.1 h k i hk h1 h3; omega
    · have := List.pairwise_iff_getElem.1 h i k h1 hk h3; omega
/-- A step of law13. -/
structure OpQ where
  kind : Int
  t : Int
  u : Int
  p : PutV
instance : Inhabited OpQ := ⟨⟨0, 0, 0, ⟨.empty, .empty⟩⟩⟩
def opQ (o : OpQ) : List Value := [.int .i64 o.kind, .int .i64 o.t, .int .i64 o.u, .string o.p.q, .string o.p.b]
theorem opQ_len (o : OpQ) : (opQ o).length = 5 := rfl
def OpQ.Ok (o : OpQ) : Prop := In64 o.kind ∧ In64 o.t ∧ In64 o.u ∧ o.p.q.size ≤ maxLen ∧ o.p.b.size ≤ maxLen
def IsOpsQ (w : World) (a : Option Addr) (len cap : Nat) (l : List OpQ) : Prop := l.length = len ∧ (∀ o ∈ l, o.Ok) ∧ SlK 5 opQ w a cap l
theorem list5 {α : Type} {l : List α} (h : l.length = 5) : ∃ a b c d e, l = [a, b, c, d, e] := by
  match l, h with
  | [a, b, c, d, e], _ => exact ⟨a, b, c, d, e, rfl⟩
theorem list2 {α : Type} {l : List α} (h : l.length = 2) : ∃ a b, l = [a, b] := by
  match l, h with
  | [a, b], _ => exact ⟨a, b, rfl⟩
set_option maxRecDepth 40000 in
theorem open_opsQ {H : Type} {enc : TypeId × Value → H} {W : World} {a : Option Addr} {len cap : Nat} {d : DataW H} {p : List MemPlace}
    (h : DataW.Trod enc Tryz.prog W 0 (fun _ => true) true 47 (.slice a len cap) d p) : ∃ l, IsOpsQ W a len cap l := by
  obtain ⟨fuel, hf⟩ := h
  rcases Deep.open_slice Tryz.underlying47 hf with ⟨hcs, _⟩ | ⟨x, l, c, m, n, D, Pl, hcs, _, hl, hm, hmm, _, hx⟩
  · simp [Value.cells] at hcs
    obtain ⟨rfl, rfl, rfl⟩ := hcs
    exact ⟨[], rfl, by simp, by simp, by decide, fun i hi => absurd hi (Nat.not_lt_zero _)⟩
  · simp [Value.cells] at hcs
    obtain ⟨rfl, rfl, rfl⟩ := hcs
    simp only [if_true] at hmm
    subst hmm
    have ce : Tryz.prog.cellsOf 50 = 5 := by kernel_rfl
    have c3 : Tryz.prog.cellsOf 3 = 1 := by kernel_rfl
    have c2 : Tryz.prog.cellsOf 28 = 2 := by kernel_rfl
    have c1 : Tryz.prog.cellsOf 9 = 1 := by kernel_rfl
    obtain ⟨z, hz⟩ := Deep.choose_lt (α := OpQ) (n := len) (p := fun i y => y.Ok ∧ ∀ j v, (opQ y)[j]? = some v → W.cell? ((x.add (i * 5)).add j) = some v) (fun i hi => by
      obtain ⟨cs', h1, h2⟩ := hx i (by omega)
      rw [ce] at h1
      obtain ⟨_, hlen, hcell⟩ := World.cells?_some h1
      obtain ⟨y0, y1, y2, y3, k, _, _, g0, g1, g2, g3⟩ := Joins.trod_struct4 Tryz.underlying50 h2
      obtain ⟨v0, v1, v2, v3, v4, rfl⟩ := list5 hlen
      simp only [c3, c2, List.drop_zero, List.drop_succ_cons, List.take_succ_cons, List.take_zero] at g0 g1 g2 g3
      obtain ⟨n0, e0, _, b0⟩ := DataW.trod_int Tryz.underlying3 g0
      obtain ⟨n1, e1, _, b1⟩ := DataW.trod_int Tryz.underlying3 g1
      obtain ⟨n2, e2, _, b2⟩ := DataW.trod_int Tryz.underlying3 g2
      obtain ⟨y4, y5, k2, _, _, g4, g5⟩ := ChangeShapes.trod_struct2 Tryz.underlying28 g3
      simp only [c1, List.drop_zero, List.drop_succ_cons, List.take_succ_cons, List.take_zero] at g4 g5
      obtain ⟨s4, e4, _, b4⟩ := DataW.trod_string Tryz.underlying9 g4
      obtain ⟨s5, e5, _, b5⟩ := DataW.trod_string Tryz.underlying9 g5
      simp at e0 e1 e2 e4 e5
      subst e0 e1 e2 e4 e5
      refine ⟨⟨n0, n1, n2, ⟨s4, s5⟩⟩, ⟨bounds_i64 b0, bounds_i64 b1, bounds_i64 b2, b4, b5⟩, fun j v hv => ?_⟩
      have hj := (List.getElem?_eq_some_iff.1 hv).1
      have := hcell j (by simpa [opQ] using hj)
      rw [this]
      exact hv)
    refine ⟨(List.range len).map z, by simp, fun q hq => ?_, by simp; exact hl, hm, fun i hi => ?_⟩
    · obtain ⟨i, hi, rfl⟩ := List.mem_map.1 hq
      exact (hz i (List.mem_range.1 hi)).1
    · have hi' : i < len := by simpa using hi
      have h00 := (hz 0 (by omega)).2 0 _ rfl
      rw [Deep.add_add] at h00
      have hs := plain_addr h00
      refine ⟨x.block, x.off, by rw [hs], fun j v hv => ?_⟩
      have := (hz i hi').2 j v (by simpa using hv)
      rw [Deep.add_add] at this
      rw [Nat.add_assoc, ← addr_plain hs]
      exact this
theorem opQ_at {w : World} {ao : Option Addr} {cp : Nat} {l : List OpQ} (h : SlK 5 opQ w ao cp l) (i : Nat) (hi : i < l.length) : ∃ g off, ao = some ⟨g, off, none⟩ ∧ w.cell? ⟨g, off + i * 5, none⟩ = some (.int .i64 l[i].kind) ∧ w.cell? ⟨g, off + i * 5 + 1, none⟩ = some (.int .i64 l[i].t) ∧
    w.cell? ⟨g, off + i * 5 + 2, none⟩ = some (.int .i64 l[i].u) ∧ w.cell? ⟨g, off + i * 5 + 3, none⟩ = some (.string l[i].p.q) ∧ w.cell? ⟨g, off + i * 5 + 4, none⟩ = some (.string l[i].p.b) := by
  obtain ⟨g, off, e, hc⟩ := h.2.2 i hi
  exact ⟨g, off, e, by simpa using hc 0 _ rfl, hc 1 _ rfl, hc 2 _ rfl, hc 3 _ rfl, hc 4 _ rfl⟩
set_option maxHeartbeats 1000000 in
/-- 'eq' at like rows. -/
theorem eqL_any (B B' : Nat) (v v' : Value) (L : List Int) (w : World) (h : RowP 2 B w v L) (h' : RowP 2 B' w v' L) :
    Calls Tryz.prog 27 #[v, v'] w fun e w' => e = .returned (.bool true) ∧ Keep NoF w w' := by
  obtain ⟨n, hn⟩ : ∃ n, L.length = n := ⟨_, rfl⟩
  obtain ⟨ao, cp, rfl, hc1, hc2, hr⟩ := h.slice hn
  obtain ⟨bo, cq, rfl, hd1, hd2, hs⟩ := h'.slice hn
  have HR := Lib.hid hr; have HS := Lib.hid hs; have HN := Lib.hid hn
  clear hr hs hn h h'
  go_enter Tryz.func27, Tryz.ntmps27
  go_wp2_with fail
  go_loopw [5] (fun iv wr => ∃ i : Nat, i ≤ n ∧ iv = .int .i64 i ∧ Keep NoF w wr) (fun iv _ => n - (intOf iv).toNat)
  case atStart => exact ⟨0, Nat.zero_le _, rfl, Keep.refl _ _⟩
  case round =>
    obtain ⟨i, hi, rfl, hk⟩ := hrel
    have HK := Lib.hid hk
    clear hk
    by_cases hlt : i < n
    · have hlt2 : (i : Int) < n := by omega
      have hlt3 : decide (n ≤ i) = false := by simp; omega
      obtain ⟨g, rfl, c1⟩ := row_at (row_keep HR.out HK.out (fun _ _ f => f)) HN.out i (by rw [HN.out]; exact hlt)
      obtain ⟨g', rfl, c2⟩ := row_at (row_keep HS.out HK.out (fun _ _ f => f)) HN.out i (by rw [HN.out]; exact hlt)
      generalize L[i]'(by rw [HN.out]; exact hlt) = x at c1 c2
      go_wp2_with fail
      go_quiet (fail)
      have HK2 := Lib.hid HK.out.drew
      go_wp2_with fail
      go_roundw
      case rel => exact ⟨i + 1, by omega, by go_num, HK.out.drewN _⟩
      case measure => simp [intOf]; omega
    · have hlt2 : ¬ (i : Int) < n := by omega
      have hlt3 : decide (i < n) = false := by simp [hlt]
      go_wp2_with fail
      go_ret
      exact ⟨rfl, HK.out⟩
end Go.Proofs.YtdbgplnjppaimaaGreat
