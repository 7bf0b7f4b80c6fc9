/- Records and packets that come in. -/
import Derived.Test.YtgbogbjifpijkaaLaw8
import Derived.Deep.Slices
import Derived.Deep.SlicePairs
import Derived.Deep.Strs
import Derived.Lib.SmallJoins
import Derived.OpenShut
import Derived.WideShapes
open Go Go.RowKit
namespace Go.Proofs.Ytgbogbjifpijkaa
open Go.ChangeShapes Go.WideShapes Go.ChangeAt Go.Deep

theorem list6 {α : Type} {l : List α} (h : l.length = 6) : ∃ a b c d e f, l = [a, b, c, d, e, f] := by
  match l, h with
  | [a, b, c, d, e, f], _ => exact ⟨a, b, c, d, e, f, rfl⟩

theorem open6 {P : Program} {H : Type} {enc : TypeId × Value → H} {W : World} {r : Reach} {b0 : Nat} {sp : Nat → Bool} {hd : Bool} {t : TypeId} {f0 f1 f2 f3 f4 f5 : Field} {v : Value} {d : DataW H} {p : List MemPlace}
    (hs : P.underlying t = some (.struct #[f0, f1, f2, f3, f4, f5])) (hone : oneCellFields P #[f0, f1, f2, f3, f4, f5] = true) (hC : P.cellsOf t = 6)
    (hv : Value.okWide P W r b0 t v) (h : DataW.Trod enc P W 0 sp hd t v d p) :
    ∃ v0 v1 v2 v3 v4 v5 n y0 y1 y2 y3 y4 y5, v = .agg #[v0, v1, v2, v3, v4, v5] ∧
      DataW.trod enc P W 0 sp hd n f0.type [v0] = some y0 ∧ DataW.trod enc P W 0 sp hd n f1.type [v1] = some y1 ∧ DataW.trod enc P W 0 sp hd n f2.type [v2] = some y2 ∧
      DataW.trod enc P W 0 sp hd n f3.type [v3] = some y3 ∧ DataW.trod enc P W 0 sp hd n f4.type [v4] = some y4 ∧ DataW.trod enc P W 0 sp hd n f5.type [v5] = some y5 := by
  obtain ⟨cs, rfl, hsz⟩ := okWide_struct hs hv
  obtain ⟨fuel, hf⟩ := h
  obtain ⟨xs, n, _, _, hl, hlen, hfl⟩ := DataW.trod_struct hs hf
  obtain ⟨l⟩ := cs
  obtain ⟨c0, c1, c2, c3, c4, c5, rfl⟩ := list6 (l := l) (by rw [← hC, ← hsz]; rfl)
  obtain ⟨y0, y1, y2, y3, y4, y5, rfl⟩ := list6 (l := xs) hlen
  obtain ⟨o0, k0⟩ := Deep.hone_of hone 0 f0 rfl
  obtain ⟨o1, k1⟩ := Deep.hone_of hone 1 f1 rfl
  obtain ⟨o2, k2⟩ := Deep.hone_of hone 2 f2 rfl
  obtain ⟨o3, k3⟩ := Deep.hone_of hone 3 f3 rfl
  obtain ⟨o4, k4⟩ := Deep.hone_of hone 4 f4 rfl
  obtain ⟨o5, k5⟩ := Deep.hone_of hone 5 f5 rfl
  refine ⟨c0, c1, c2, c3, c4, c5, n, y0, y1, y2, y3, y4, y5, rfl, ?_, ?_, ?_, ?_, ?_, ?_⟩
  · simpa [Value.cells, o0, k0] using hfl 0 f0 rfl
  · simpa [Value.cells, o1, k1] using hfl 1 f1 rfl
  · simpa [Value.cells, o2, k2] using hfl 2 f2 rfl
  · simpa [Value.cells, o3, k3] using hfl 3 f3 rfl
  · simpa [Value.cells, o4, k4] using hfl 4 f4 rfl
  · simpa [Value.cells, o5, k5] using hfl 5 f5 rfl

theorem open_packet {H : Type} {enc : TypeId × Value → H} {W : World} {r : Reach} {b0 : Nat} {v : Value} {d : DataW H} {p : List MemPlace}
    (hv : Value.okWide Try.prog W r b0 40 v) (h : DataW.Trod enc Try.prog W 0 (fun _ => true) true 40 v d p) : ∃ z : PackV, v = packVal z ∧ z.Ok := by
  obtain ⟨v0, v1, v2, v3, v4, v5, n, y0, y1, y2, y3, y4, y5, rfl, h0, h1, h2, h3, h4, h5⟩ := open6 Try.underlying40 (by kernel_rfl) (by kernel_rfl) hv h
  obtain ⟨n0, e0, _, w0⟩ := DataW.trod_int Try.underlying3 h0
  obtain ⟨n1, e1, _, w1⟩ := DataW.trod_int Try.underlying3 h1
  obtain ⟨n2, e2, _, w2⟩ := DataW.trod_int Try.underlying3 h2
  obtain ⟨n3, e3, _, w3⟩ := DataW.trod_int Try.underlying2 h3
  obtain ⟨n4, e4, _, w4⟩ := DataW.trod_int Try.underlying3 h4
  obtain ⟨b, e5, _⟩ := DataW.trod_bool Try.underlying4 h5
  simp at e0 e1 e2 e3 e4 e5
  subst e0 e1 e2 e3 e4 e5
  exact ⟨⟨n0, n1, n2, n3, n4, b⟩, rfl, bounds_i64 w0, bounds_i64 w1, bounds_i64 w2, bounds_i64 w3, bounds_i64 w4⟩

theorem plain_addr {w : World} {x : Addr} {v : Value} (h : w.cell? (x.add 0) = some v) : x = ⟨x.block, x.off, none⟩ := by
  obtain ⟨b, o, sp⟩ := x
  cases sp with
  | none => rfl
  | some s =>
    simp only [Addr.add, if_true, World.cell?] at h
    split at h
    · simp at h
    · cases h
theorem addr_plain {x : Addr} (hx : x = ⟨x.block, x.off, none⟩) (i : Nat) : x.add i = ⟨x.block, x.off + i, none⟩ := by
  rw [hx]
  by_cases h : i = 0
  · subst h; simp [Addr.add]
  · simp [Addr.add, h]

theorem open_sli {H : Type} {enc : TypeId × Value → H} {W : World} {n : Nat} {v : Value} {y : DataW H × List MemPlace}
    (h : DataW.trod enc Try.prog W 0 (fun _ => true) true n 35 [v] = some y) : ∃ (l : List Int) (ao : Option Addr) (cp : Nat), v = .slice ao l.length cp ∧ SlI W ao cp l := by
  rcases Deep.open_slice1 Try.underlying35 (by kernel_rfl) h with ⟨hcs, _⟩ | ⟨x, len, cap, m, k, V, D, Pl, hcs, _, hl, hm, hmm, _, hx⟩
  · simp at hcs; subst hcs; exact ⟨[], none, 0, rfl, SlI.nil W⟩
  · simp at hcs
    subst hcs
    simp only [if_true] at hmm
    subst hmm
    obtain ⟨z, hz⟩ := Deep.choose_lt (α := Int) (n := len) (p := fun i y => W.cell? (x.add i) = some (.int .i64 y) ∧ InI64 y) (fun i hi => by
      obtain ⟨h1, h2⟩ := hx i (by omega)
      obtain ⟨n0, e0, _, w0⟩ := DataW.trod_int Try.underlying3 h2
      simp at e0
      rw [e0] at h1
      exact ⟨n0, h1, bounds_i64 w0⟩)
    refine ⟨(List.range len).map z, some x, m, by simp, ⟨by simp; exact hl, hm, ?_, fun i hi => ?_⟩⟩
    · intro y hy
      obtain ⟨i, hi, rfl⟩ := List.mem_map.1 hy
      exact (hz i (by simpa using hi)).2
    · simp at hi
      have hpl := plain_addr (hz 0 (by omega)).1
      refine ⟨x.block, x.off, by rw [hpl], ?_⟩
      rw [← addr_plain hpl, (hz i hi).1]
      simp

theorem open_slp {H : Type} {enc : TypeId × Value → H} {W : World} {n : Nat} {v : Value} {y : DataW H × List MemPlace}
    (h : DataW.trod enc Try.prog W 0 (fun _ => true) true n 36 [v] = some y) : ∃ (l : List PutV) (ao : Option Addr) (cp : Nat), v = .slice ao l.length cp ∧ SlP W ao cp l := by
  rcases Deep.open_slice_pairs Try.underlying36 Try.underlying29 (by kernel_rfl) rfl rfl (by kernel_rfl) (by kernel_rfl) h with ⟨hcs, _⟩ | ⟨x, len, cap, m, k, V0, V1, D0, D1, P0, P1, hcs, _, hl, hm, hmm, _, hx⟩
  · simp at hcs; subst hcs; exact ⟨[], none, 0, rfl, SlP.nil W⟩
  · simp at hcs
    subst hcs
    simp only [if_true] at hmm
    subst hmm
    obtain ⟨z, hz⟩ := Deep.choose_lt (α := PutV) (n := len) (p := fun i y => W.cell? (x.add (i * 2)) = some (.string y.q) ∧ W.cell? (x.add (i * 2 + 1)) = some (.string y.b) ∧ y.q.size ≤ maxLen ∧ y.b.size ≤ maxLen) (fun i hi => by
      obtain ⟨h1, h2, h3, h4⟩ := hx i (by omega)
      obtain ⟨s0, e0, _, w0⟩ := DataW.trod_string Try.underlying9 h3
      obtain ⟨s1, e1, _, w1⟩ := DataW.trod_string Try.underlying9 h4
      simp at e0 e1
      rw [e0] at h1
      rw [e1] at h2
      exact ⟨⟨s0, s1⟩, h1, h2, w0, w1⟩)
    refine ⟨(List.range len).map z, some x, m, by simp, ⟨by simp; exact hl, hm, ?_, fun i hi => ?_⟩⟩
    · intro y hy
      obtain ⟨i, hi, rfl⟩ := List.mem_map.1 hy
      exact (hz i (by simpa using hi)).2.2
    · simp at hi
      have hpl : x = ⟨x.block, x.off, none⟩ := plain_addr (v := .string (z 0).q) (by have := (hz 0 (by omega)).1; simpa using this)
      refine ⟨x.block, x.off, by rw [hpl], ?_, ?_⟩
      · rw [← addr_plain hpl, (hz i hi).1]; simp
      · rw [Nat.add_assoc, ← addr_plain hpl, (hz i hi).2.1]; simp

structure RecA where
  r : RecV
  a4 : Option Addr
  c4 : Nat
  a5 : Option Addr
  c5 : Nat
def RecA.val (z : RecA) : Value := recVal z.r z.a4 z.c4 z.a5 z.c5
def RecA.Ok (w : World) (z : RecA) : Prop := RecAt w z.r z.a4 z.c4 z.a5 z.c5
theorem open_record {H : Type} {enc : TypeId × Value → H} {W : World} {r : Reach} {b0 : Nat} {v : Value} {d : DataW H} {p : List MemPlace}
    (hv : Value.okWide Try.prog W r b0 38 v) (h : DataW.Trod enc Try.prog W 0 (fun _ => true) true 38 v d p) : ∃ z : RecA, v = z.val ∧ z.Ok W := by
  obtain ⟨v0, v1, v2, v3, v4, v5, n, y0, y1, y2, y3, y4, y5, rfl, h0, h1, h2, h3, h4, h5⟩ := open6 Try.underlying38 (by kernel_rfl) (by kernel_rfl) hv h
  obtain ⟨n0, e0, _, w0⟩ := DataW.trod_int Try.underlying3 h0
  obtain ⟨n1, e1, _, w1⟩ := DataW.trod_int Try.underlying2 h1
  obtain ⟨n2, e2, _, w2⟩ := DataW.trod_int Try.underlying2 h2
  obtain ⟨b, e3, _⟩ := DataW.trod_bool Try.underlying4 h3
  obtain ⟨l4, a4, c4, rfl, s4⟩ := open_sli h4
  obtain ⟨l5, a5, c5, rfl, s5⟩ := open_slp h5
  simp at e0 e1 e2 e3
  subst e0 e1 e2 e3
  exact ⟨⟨⟨n0, n1, n2, b, l4, l5⟩, a4, c4, a5, c5⟩, rfl, bounds_i64 w0, bounds_i64 w1, bounds_i64 w2, s4, s5⟩
end Go.Proofs.Ytgbogbjifpijkaa
