/- Slices of packets, of steps of a net: as they come in; rows of packets of the law's own. -/
import Derived.Test.YtlabhbjampkhpaaGreatNS15
import Derived.Test.YtlabhbjampkhpaaGreatRowk
import Derived.Test.YtlabhbjampkhpaaGreatLawBase
open Go Go.Proofs Go.RowKit Go.Deep
namespace Go.Proofs.YtlabhbjampkhpaaGreat
def pkL (p : PackV) : List Value := [.int .i64 p.kind, .int .i64 p.from_, .int .i64 p.to, .int .i64 p.tid, .int .i64 p.n, .bool p.yes]
theorem pkL_len (p : PackV) : (pkL p).length = 6 := rfl
theorem pkL_one (p : PackV) : ∀ u ∈ pkL p, u.oneCell' = true := by
  intro u hu
  simp only [pkL, List.mem_cons, List.not_mem_nil, or_false] at hu
  rcases hu with rfl | rfl | rfl | rfl | rfl | rfl <;> rfl
theorem infoPk : (Tryz.prog.info? 23).map (fun i => (i.zero, i.size, i.bytes)) = some (some (.agg #[.int .i64 0, .int .i64 0, .int .i64 0, .int .i64 0, .int .i64 0, .bool false]), 6, 48) := by kernel_rfl
/-- The six cells of a packet. -/
def PkAt (w : World) (g o : Nat) (p : PackV) : Prop := w.cell? ⟨g, o, none⟩ = some (.int .i64 p.kind) ∧ w.cell? ⟨g, o + 1, none⟩ = some (.int .i64 p.from_) ∧ w.cell? ⟨g, o + 2, none⟩ = some (.int .i64 p.to) ∧
  w.cell? ⟨g, o + 3, none⟩ = some (.int .i64 p.tid) ∧ w.cell? ⟨g, o + 4, none⟩ = some (.int .i64 p.n) ∧ w.cell? ⟨g, o + 5, none⟩ = some (.bool p.yes)
theorem sl6 {w : World} {ao : Option Addr} {cp : Nat} {l : List PackV} (h : SlK 6 pkL w ao cp l) (i : Nat) (hi : i < l.length) : ∃ g off, ao = some ⟨g, off, none⟩ ∧ PkAt w g (off + i * 6) l[i] := by
  obtain ⟨g, off, e, hc⟩ := h.2.2 i hi
  exact ⟨g, off, e, by simpa using hc 0 _ rfl, hc 1 _ rfl, hc 2 _ rfl, hc 3 _ rfl, hc 4 _ rfl, hc 5 _ rfl⟩
theorem PkAt.keep {F : Nat → Prop} {w w' : World} {g o : Nat} {p : PackV} (h : PkAt w g o p) (hk : Keep F w w') (hg : ¬ F g) : PkAt w' g o p :=
  ⟨hk.cell' h.1 hg, hk.cell' h.2.1 hg, hk.cell' h.2.2.1 hg, hk.cell' h.2.2.2.1 hg, hk.cell' h.2.2.2.2.1 hg, hk.cell' h.2.2.2.2.2 hg⟩
theorem PkAt.of_block {w : World} {g : Nat} {p : PackV} {T : TypeId} {fz : Nat × Nat} (h : w.heap[g]? = some (.cells #[.int .i64 p.kind, .int .i64 p.from_, .int .i64 p.to, .int .i64 p.tid, .int .i64 p.n, .bool p.yes] T fz)) : PkAt w g 0 p :=
  ⟨by rw [cell_of_heap h]; rfl, by rw [cell_of_heap h]; rfl, by rw [cell_of_heap h]; rfl, by rw [cell_of_heap h]; rfl, by rw [cell_of_heap h]; rfl, by rw [cell_of_heap h]; rfl⟩
/-- A slice of packets that came in. -/
def IsPks (w : World) (a : Option Addr) (len cap : Nat) (l : List PackV) : Prop := l.length = len ∧ (∀ p ∈ l, p.Ok) ∧ SlK 6 pkL w a cap l
theorem trod6 {P : Program} {H : Type} {enc : TypeId × Value → H} {W : World} {sp : Nat → Bool} {hd : Bool} {t : TypeId} {f0 f1 f2 f3 f4 f5 : Field} {cs : List Value} {fuel : Nat} {x : DataW H × List MemPlace}
    (hs : P.underlying t = some (.struct #[f0, f1, f2, f3, f4, f5])) (hone : oneCellFields P #[f0, f1, f2, f3, f4, f5] = true) (hlen6 : cs.length = 6)
    (hf : DataW.trod enc P W 0 sp hd fuel t cs = some x) :
    ∃ v0 v1 v2 v3 v4 v5 n y0 y1 y2 y3 y4 y5, cs = [v0, v1, v2, v3, v4, v5] ∧
      DataW.trod enc P W 0 sp hd n f0.type [v0] = some y0 ∧ DataW.trod enc P W 0 sp hd n f1.type [v1] = some y1 ∧ DataW.trod enc P W 0 sp hd n f2.type [v2] = some y2 ∧
      DataW.trod enc P W 0 sp hd n f3.type [v3] = some y3 ∧ DataW.trod enc P W 0 sp hd n f4.type [v4] = some y4 ∧ DataW.trod enc P W 0 sp hd n f5.type [v5] = some y5 := by
  obtain ⟨xs, n, _, _, hl, hlen, hfl⟩ := DataW.trod_struct hs hf
  obtain ⟨c0, c1, c2, c3, c4, c5, rfl⟩ := list6 hlen6
  obtain ⟨y0, y1, y2, y3, y4, y5, rfl⟩ := list6 (l := xs) hlen
  obtain ⟨o0, k0⟩ := Deep.hone_of hone 0 f0 rfl
  obtain ⟨o1, k1⟩ := Deep.hone_of hone 1 f1 rfl
  obtain ⟨o2, k2⟩ := Deep.hone_of hone 2 f2 rfl
  obtain ⟨o3, k3⟩ := Deep.hone_of hone 3 f3 rfl
  obtain ⟨o4, k4⟩ := Deep.hone_of hone 4 f4 rfl
  obtain ⟨o5, k5⟩ := Deep.hone_of hone 5 f5 rfl
  refine ⟨c0, c1, c2, c3, c4, c5, n, y0, y1, y2, y3, y4, y5, rfl, ?_, ?_, ?_, ?_, ?_, ?_⟩
  · simpa [o0, k0] using hfl 0 f0 rfl
  · simpa [o1, k1] using hfl 1 f1 rfl
  · simpa [o2, k2] using hfl 2 f2 rfl
  · simpa [o3, k3] using hfl 3 f3 rfl
  · simpa [o4, k4] using hfl 4 f4 rfl
  · simpa [o5, k5] using hfl 5 f5 rfl
set_option maxRecDepth 40000 in
theorem trod_packet {H : Type} {enc : TypeId × Value → H} {W : World} {cs : List Value} {fuel : Nat} {x : DataW H × List MemPlace} (hl : cs.length = 6)
    (hf : DataW.trod enc Tryz.prog W 0 (fun _ => true) true fuel 23 cs = some x) : ∃ z : PackV, cs = pkL z ∧ z.Ok := by
  obtain ⟨v0, v1, v2, v3, v4, v5, n, y0, y1, y2, y3, y4, y5, rfl, h0, h1, h2, h3, h4, h5⟩ := trod6 Tryz.underlying23 (by kernel_rfl) hl hf
  obtain ⟨n0, e0, _, w0⟩ := DataW.trod_int Tryz.underlying3 h0
  obtain ⟨n1, e1, _, w1⟩ := DataW.trod_int Tryz.underlying3 h1
  obtain ⟨n2, e2, _, w2⟩ := DataW.trod_int Tryz.underlying3 h2
  obtain ⟨n3, e3, _, w3⟩ := DataW.trod_int Tryz.underlying2 h3
  obtain ⟨n4, e4, _, w4⟩ := DataW.trod_int Tryz.underlying3 h4
  obtain ⟨b, e5, _⟩ := DataW.trod_bool Tryz.underlying4 h5
  simp at e0 e1 e2 e3 e4 e5
  subst e0 e1 e2 e3 e4 e5
  exact ⟨⟨n0, n1, n2, n3, n4, b⟩, rfl, bounds_i64 w0, bounds_i64 w1, bounds_i64 w2, bounds_i64 w3, bounds_i64 w4⟩
instance : Inhabited PackV := ⟨⟨0, 0, 0, 0, 0, false⟩⟩
set_option maxRecDepth 40000 in
theorem open_pks {H : Type} {enc : TypeId × Value → H} {W : World} {a : Option Addr} {len cap : Nat} {d : DataW H} {p : List MemPlace}
    (h : DataW.Trod enc Tryz.prog W 0 (fun _ => true) true 38 (.slice a len cap) d p) : ∃ l, IsPks W a len cap l := by
  obtain ⟨fuel, hf⟩ := h
  rcases Deep.open_slice Tryz.underlying38 hf with ⟨hcs, _⟩ | ⟨x, l, c, m, n, D, Pl, hcs, _, hl, hm, hmm, _, hx⟩
  · simp [Value.cells] at hcs
    obtain ⟨rfl, rfl, rfl⟩ := hcs
    exact ⟨[], rfl, by simp, by simp, by decide, fun i hi => absurd hi (Nat.not_lt_zero _)⟩
  · simp [Value.cells] at hcs
    obtain ⟨rfl, rfl, rfl⟩ := hcs
    simp only [if_true] at hmm
    subst hmm
    have ce : Tryz.prog.cellsOf 23 = 6 := by kernel_rfl
    obtain ⟨z, hz⟩ := Deep.choose_lt (α := PackV) (n := len) (p := fun i y => y.Ok ∧ ∀ j v, (pkL y)[j]? = some v → W.cell? ((x.add (i * 6)).add j) = some v) (fun i hi => by
      obtain ⟨cs', h1, h2⟩ := hx i (by omega)
      rw [ce] at h1
      obtain ⟨_, hlen, hcell⟩ := World.cells?_some h1
      obtain ⟨y, rfl, hok⟩ := trod_packet hlen h2
      refine ⟨y, hok, fun j v hv => ?_⟩
      have hj := (List.getElem?_eq_some_iff.1 hv).1
      have := hcell j (by simpa [pkL] using hj)
      rw [this]
      simpa using hv)
    refine ⟨(List.range len).map z, by simp, fun q hq => ?_, by simp; exact hl, hm, fun i hi => ?_⟩
    · obtain ⟨i, hi, rfl⟩ := List.mem_map.1 hq
      exact (hz i (List.mem_range.1 hi)).1
    · have hi' : i < len := by simpa using hi
      have h00 := (hz 0 (by omega)).2 0 _ rfl
      rw [Deep.add_add] at h00
      have hs := plain_addr h00
      refine ⟨x.block, x.off, by rw [hs], fun j v hv => ?_⟩
      have := (hz i hi').2 j v (by simpa using hv)
      rw [Deep.add_add] at this
      rw [Nat.add_assoc, ← addr_plain hs]
      exact this
/-- A step of a net. -/
structure OpN where
  kind : Int
  i : Int
  p : PackV
instance : Inhabited OpN := ⟨⟨0, 0, default⟩⟩
def opC (o : OpN) : List Value := .int .i64 o.kind :: .int .i64 o.i :: pkL o.p
theorem opC_len (o : OpN) : (opC o).length = 8 := rfl
def OpN.Ok (o : OpN) : Prop := In64 o.kind ∧ In64 o.i ∧ o.p.Ok
def IsOpsN (w : World) (a : Option Addr) (len cap : Nat) (l : List OpN) : Prop := l.length = len ∧ (∀ o ∈ l, o.Ok) ∧ SlK 8 opC w a cap l
theorem list8 {α : Type} {l : List α} (h : l.length = 8) : ∃ a b t, l = a :: b :: t ∧ t.length = 6 := by
  match l, h with
  | a :: b :: t, h => exact ⟨a, b, t, rfl, by simpa using h⟩
set_option maxRecDepth 40000 in
theorem open_opsN {H : Type} {enc : TypeId × Value → H} {W : World} {a : Option Addr} {len cap : Nat} {d : DataW H} {p : List MemPlace}
    (h : DataW.Trod enc Tryz.prog W 0 (fun _ => true) true 35 (.slice a len cap) d p) : ∃ l, IsOpsN W a len cap l := by
  obtain ⟨fuel, hf⟩ := h
  rcases Deep.open_slice Tryz.underlying35 hf with ⟨hcs, _⟩ | ⟨x, l, c, m, n, D, Pl, hcs, _, hl, hm, hmm, _, hx⟩
  · simp [Value.cells] at hcs
    obtain ⟨rfl, rfl, rfl⟩ := hcs
    exact ⟨[], rfl, by simp, by simp, by decide, fun i hi => absurd hi (Nat.not_lt_zero _)⟩
  · simp [Value.cells] at hcs
    obtain ⟨rfl, rfl, rfl⟩ := hcs
    simp only [if_true] at hmm
    subst hmm
    have ce : Tryz.prog.cellsOf 40 = 8 := by kernel_rfl
    have c3 : Tryz.prog.cellsOf 3 = 1 := by kernel_rfl
    have c6 : Tryz.prog.cellsOf 23 = 6 := by kernel_rfl
    obtain ⟨z, hz⟩ := Deep.choose_lt (α := OpN) (n := len) (p := fun i y => y.Ok ∧ ∀ j v, (opC y)[j]? = some v → W.cell? ((x.add (i * 8)).add j) = some v) (fun i hi => by
      obtain ⟨cs', h1, h2⟩ := hx i (by omega)
      rw [ce] at h1
      obtain ⟨_, hlen, hcell⟩ := World.cells?_some h1
      obtain ⟨y0, y1, y2, k, _, _, g0, g1, g2⟩ := Deep.trod_struct3 Tryz.underlying40 h2
      obtain ⟨v0, v1, t, rfl, ht⟩ := list8 hlen
      simp only [c3, c6, List.drop_zero, List.drop_succ_cons, List.take_succ_cons, List.take_zero] at g0 g1 g2
      obtain ⟨n0, e0, _, b0⟩ := DataW.trod_int Tryz.underlying3 g0
      obtain ⟨n1, e1, _, b1⟩ := DataW.trod_int Tryz.underlying3 g1
      simp at e0 e1
      subst e0 e1
      rw [List.take_of_length_le (by omega)] at g2
      obtain ⟨q, rfl, hq⟩ := trod_packet ht g2
      refine ⟨⟨n0, n1, q⟩, ⟨bounds_i64 b0, bounds_i64 b1, hq⟩, fun j v hv => ?_⟩
      have hj := (List.getElem?_eq_some_iff.1 hv).1
      have := hcell j (by simpa [opC, pkL] using hj)
      rw [this]
      exact hv)
    refine ⟨(List.range len).map z, by simp, fun q hq => ?_, by simp; exact hl, hm, fun i hi => ?_⟩
    · obtain ⟨i, hi, rfl⟩ := List.mem_map.1 hq
      exact (hz i (List.mem_range.1 hi)).1
    · have hi' : i < len := by simpa using hi
      have h00 := (hz 0 (by omega)).2 0 _ rfl
      rw [Deep.add_add] at h00
      have hs := plain_addr h00
      refine ⟨x.block, x.off, by rw [hs], fun j v hv => ?_⟩
      have := (hz i hi').2 j v (by simpa using hv)
      rw [Deep.add_add] at this
      rw [Nat.add_assoc, ← addr_plain hs]
      exact this
/-- A slice of whole numbers that came in, as one that can be read. -/
theorem IsRow.slG {w : World} {a : Option Addr} {len cap : Nat} {zs : List Int} (h : IsRow .i64 w a len cap zs) : ∃ l : List Int, l.length = len ∧ (∀ x ∈ l, (Lit.int .i64 x).wf = true) ∧ SlG (Value.int .i64) w a cap l := by
  refine ⟨(List.range len).map fun i => zs.getD i 0, by simp, fun x hx => ?_, by simp; exact h.le.1, h.le.2, fun i hi => ?_⟩
  · obtain ⟨i, hi, rfl⟩ := List.mem_map.1 hx
    obtain ⟨_, _, _, _, hw⟩ := h.cellAt i (List.mem_range.1 hi)
    exact hw
  · simp at hi
    obtain ⟨g, off, e, hc, _⟩ := h.cellAt i hi
    exact ⟨g, off, e, by rw [hc]; simp⟩
end Go.Proofs.YtlabhbjampkhpaaGreat
