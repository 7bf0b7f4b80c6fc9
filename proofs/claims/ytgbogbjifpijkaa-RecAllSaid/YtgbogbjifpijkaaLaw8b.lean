/- Rows of records and packets in memory: what the walks of the laws ask. -/
import Derived.Test.YtgbogbjifpijkaaRec8
import Derived.Test.YtgbogbjifpijkaaRecMay2
open Go Go.RowKit
namespace Go.Proofs.Ytgbogbjifpijkaa

theorem row_keep {w w' : World} {B : Nat} {cs : Array Value} {T : TypeId} {fz : Nat × Nat} (h : w.heap[B]? = some (.cells cs T fz)) (hk : Keep NoF w w') : w'.heap[B]? = some (.cells cs T fz) := by
  rw [hk.block _ (lt_of_heap h) (fun f => f)]; exact h
def RecC (W : World) (B : Nat) (k t i : Int) (y : Bool) (v4 v5 : Value) : Prop :=
  W.cell? ⟨B, 0, none⟩ = some (.int .i64 k) ∧ W.cell? ⟨B, 1, none⟩ = some (.int .i64 t) ∧ W.cell? ⟨B, 2, none⟩ = some (.int .i64 i) ∧ W.cell? ⟨B, 3, none⟩ = some (.bool y) ∧ W.cell? ⟨B, 4, none⟩ = some v4 ∧ W.cell? ⟨B, 5, none⟩ = some v5
theorem rec_cells {W : World} {B : Nat} {k t i : Int} {y : Bool} {v4 v5 : Value} {T : TypeId} {fz : Nat × Nat} (h : W.heap[B]? = some (.cells (recCells k t i y v4 v5) T fz)) : RecC W B k t i y v4 v5 := by
  refine ⟨?_, ?_, ?_, ?_, ?_, ?_⟩
  all_goals (rw [cell_of_heap h]; rfl)
def RecF (W : World) (B : Nat) : Prop :=
  W.frozen? ⟨B, 0, none⟩ = false ∧ W.frozen? ⟨B, 1, none⟩ = false ∧ W.frozen? ⟨B, 2, none⟩ = false ∧ W.frozen? ⟨B, 3, none⟩ = false ∧ W.frozen? ⟨B, 4, none⟩ = false ∧ W.frozen? ⟨B, 5, none⟩ = false
theorem rec_free {W : World} {B : Nat} {cs : Array Value} {T : TypeId} (h : W.heap[B]? = some (.cells cs T (0, 0))) : RecF W B :=
  ⟨free_of_heap h _, free_of_heap h _, free_of_heap h _, free_of_heap h _, free_of_heap h _, free_of_heap h _⟩
def packCells (p : PackV) : Array Value := #[.int .i64 p.kind, .int .i64 p.from_, .int .i64 p.to, .int .i64 p.tid, .int .i64 p.n, .bool p.yes]
def PackC (W : World) (B : Nat) (p : PackV) : Prop :=
  W.cell? ⟨B, 0, none⟩ = some (.int .i64 p.kind) ∧ W.cell? ⟨B, 1, none⟩ = some (.int .i64 p.from_) ∧ W.cell? ⟨B, 2, none⟩ = some (.int .i64 p.to) ∧ W.cell? ⟨B, 3, none⟩ = some (.int .i64 p.tid) ∧ W.cell? ⟨B, 4, none⟩ = some (.int .i64 p.n) ∧ W.cell? ⟨B, 5, none⟩ = some (.bool p.yes)
theorem pack_cells {W : World} {B : Nat} {p : PackV} {T : TypeId} {fz : Nat × Nat} (h : W.heap[B]? = some (.cells (packCells p) T fz)) : PackC W B p := by
  refine ⟨?_, ?_, ?_, ?_, ?_, ?_⟩
  all_goals (rw [cell_of_heap h]; rfl)

theorem own_blk (a : Option Addr) (n c : Nat) : (Value.slice a n c).ownBlock = blockOf a := by cases a <;> rfl
/-- Six stores into the row of a record. -/
theorem setRec {w : World} {Z : Nat} {T : TypeId} {k t i : Int} {y : Bool} {v4 v5 : Value} (h : w.heap[Z]? = some (.cells (recCells k t i y v4 v5) T (0, 0))) (k' t' i' : Int) (y' : Bool) (u4 u5 : Value) :
    ((((((w.setCell ⟨Z, 0, none⟩ (.int .i64 k')).setCell ⟨Z, 1, none⟩ (.int .i64 t')).setCell ⟨Z, 2, none⟩ (.int .i64 i')).setCell ⟨Z, 3, none⟩ (.bool y')).setCell ⟨Z, 4, none⟩ u4).setCell ⟨Z, 5, none⟩ u5).heap[Z]? = some (.cells (recCells k' t' i' y' u4 u5) T (0, 0)) ∧
      Keep (fun x => x = Z) w ((((((w.setCell ⟨Z, 0, none⟩ (.int .i64 k')).setCell ⟨Z, 1, none⟩ (.int .i64 t')).setCell ⟨Z, 2, none⟩ (.int .i64 i')).setCell ⟨Z, 3, none⟩ (.bool y')).setCell ⟨Z, 4, none⟩ u4).setCell ⟨Z, 5, none⟩ u5) := set6 h _ _ _ _ _ _
/-- What Record hands back, as an opaque record. -/
theorem record8_op (k t i : Int) (y : Bool) (ps : List Int) (us : List PutV) (a4 : Option Addr) (c4 : Nat) (a5 : Option Addr) (c5 : Nat) (w : World) (h : RecAt w ⟨k, t, i, y, ps, us⟩ a4 c4 a5 c5) :
    Calls Try.prog 30 #[.agg #[.int .i64 k, .int .i64 t, .int .i64 i, .bool y, .slice a4 ps.length c4, .slice a5 us.length c5]] w fun e w' =>
      ∃ (k' t' i' : Int) (y' : Bool) (ps' : List Int) (us' : List PutV) (b4 : Option Addr) (d4 : Nat) (b5 : Option Addr) (d5 : Nat), e = .returned (.agg #[.int .i64 k', .int .i64 t', .int .i64 i', .bool y', .slice b4 ps'.length d4, .slice b5 us'.length d5]) ∧
        RecAt w' ⟨k', t', i', y', ps', us'⟩ b4 d4 b5 d5 ∧ Keep NoF w w' ∧ (∀ j, blockOf b4 = some j → w.heap.size ≤ j) ∧ (∀ j, blockOf b5 = some j → w.heap.size ≤ j) ∧ ps'.length ≤ 9 ∧ us'.length ≤ 12 ∧
        (∀ p ∈ us', p.q.size ≤ 10 ∧ p.b.size ≤ 62) ∧ OwnI w' (.slice b4 ps'.length d4) ps' ∧ OwnP w' (.slice b5 us'.length d5) us' ∧ (∀ j, blockOf b4 = some j → blockOf b5 ≠ some j) := by
  refine (record8_any ⟨k, t, i, y, ps, us⟩ a4 c4 a5 c5 w h).mono ?_
  rintro e w' ⟨b4, d4, b5, d5, rfl, hr, hk, h4, h5, o4, o5, dis⟩
  refine ⟨_, _, _, _, _, _, b4, d4, b5, d5, rfl, hr, hk, h4, h5, ?_, ?_, ?_, o4, o5, dis⟩
  · simp [recCut]; omega
  · simp [recCut]; omega
  · intro p hp
    obtain ⟨q, _, rfl⟩ := List.mem_map.1 hp
    exact ⟨cutT_size _ _, cutT_size _ _⟩
theorem krecord_op (k t i : Int) (y : Bool) (ps : List Int) (us : List PutV) (a4 : Option Addr) (c4 : Nat) (a5 : Option Addr) (c5 : Nat) (b : Bool) (hb : recB ⟨k, t, i, y, ps, us⟩ = b) (w : World) (h : RecAt w ⟨k, t, i, y, ps, us⟩ a4 c4 a5 c5) :
    Calls Try.prog 31 #[.agg #[.int .i64 k, .int .i64 t, .int .i64 i, .bool y, .slice a4 ps.length c4, .slice a5 us.length c5]] w fun e w' => e = .returned (.bool b) ∧ Keep NoF w w' := by
  subst hb
  exact krecord_any ⟨k, t, i, y, ps, us⟩ a4 c4 a5 c5 w h
theorem rrecord_op (k t i : Int) (y : Bool) (ps : List Int) (us : List PutV) (a4 : Option Addr) (c4 : Nat) (a5 : Option Addr) (c5 : Nat) (b : Bool) (hb : recB ⟨k, t, i, y, ps, us⟩ = b) (w : World) (h : RecAt w ⟨k, t, i, y, ps, us⟩ a4 c4 a5 c5) :
    Calls Try.prog 32 #[.agg #[.int .i64 k, .int .i64 t, .int .i64 i, .bool y, .slice a4 ps.length c4, .slice a5 us.length c5]] w fun e w' => e = .returned (.bool b) ∧ Keep NoF w w' := by
  subst hb
  exact rrecord_any ⟨k, t, i, y, ps, us⟩ a4 c4 a5 c5 w h
theorem encode_op (k t i : Int) (y : Bool) (ps : List Int) (us : List PutV) (a4 : Option Addr) (c4 : Nat) (a5 : Option Addr) (c5 : Nat) (w : World) (h : RecAt w ⟨k, t, i, y, ps, us⟩ a4 c4 a5 c5) :
    Calls Try.prog 35 #[.agg #[.int .i64 k, .int .i64 t, .int .i64 i, .bool y, .slice a4 ps.length c4, .slice a5 us.length c5]] w fun e w' => Keep NoF w w' ∧
      ((recB ⟨k, t, i, y, ps, us⟩ = false ∧ e = .returned (.slice none 0 0)) ∨
       (recB ⟨k, t, i, y, ps, us⟩ = true ∧ ∃ a cp, e = .returned (.slice (some a) (encB ⟨k, t, i, y, ps, us⟩).length cp) ∧ OwnB w' (.slice (some a) (encB ⟨k, t, i, y, ps, us⟩).length cp) (encB ⟨k, t, i, y, ps, us⟩) ∧ w.heap.size ≤ a.block)) := by
  rcases hb : recB ⟨k, t, i, y, ps, us⟩ with _ | _
  · refine (encode_bad ⟨k, t, i, y, ps, us⟩ a4 c4 a5 c5 w h hb).mono ?_
    rintro e w' ⟨rfl, hk⟩
    exact ⟨hk, .inl ⟨rfl, rfl⟩⟩
  · refine (encode_ok ⟨k, t, i, y, ps, us⟩ a4 c4 a5 c5 w h hb).mono ?_
    rintro e w' ⟨v, rfl, ho, hk, hf⟩
    obtain ⟨ao, cp, rfl, sl, bk⟩ := ho.slb
    have hne : 0 < (encB ⟨k, t, i, y, ps, us⟩).length := by
      unfold encB
      simp only [List.length_append, smallB_length]
      omega
    cases ao with
    | none => obtain ⟨g, off, e, _⟩ := sl.2.2 0 hne; cases e
    | some a => exact ⟨hk, .inr ⟨rfl, a, cp, rfl, ho, hf a.block (by rw [← bk]; rfl)⟩⟩
theorem encode_f (k t i : Int) (y : Bool) (ps : List Int) (us : List PutV) (a4 : Option Addr) (c4 : Nat) (a5 : Option Addr) (c5 : Nat) (hb : recB ⟨k, t, i, y, ps, us⟩ = false) (w : World) (h : RecAt w ⟨k, t, i, y, ps, us⟩ a4 c4 a5 c5) :
    Calls Try.prog 35 #[.agg #[.int .i64 k, .int .i64 t, .int .i64 i, .bool y, .slice a4 ps.length c4, .slice a5 us.length c5]] w fun e w' => e = .returned (.slice none 0 0) ∧ Keep NoF w w' :=
  encode_bad ⟨k, t, i, y, ps, us⟩ a4 c4 a5 c5 w h hb
theorem encode_t (k t i : Int) (y : Bool) (ps : List Int) (us : List PutV) (a4 : Option Addr) (c4 : Nat) (a5 : Option Addr) (c5 : Nat) (hb : recB ⟨k, t, i, y, ps, us⟩ = true) (n : Nat) (hn : (encB ⟨k, t, i, y, ps, us⟩).length = n) (w : World) (h : RecAt w ⟨k, t, i, y, ps, us⟩ a4 c4 a5 c5) :
    Calls Try.prog 35 #[.agg #[.int .i64 k, .int .i64 t, .int .i64 i, .bool y, .slice a4 ps.length c4, .slice a5 us.length c5]] w fun e w' =>
      ∃ a cp, e = .returned (.slice (some a) n cp) ∧ OwnB w' (.slice (some a) n cp) (encB ⟨k, t, i, y, ps, us⟩) ∧ Keep NoF w w' ∧ w.heap.size ≤ a.block := by
  subst hn
  refine (encode_op k t i y ps us a4 c4 a5 c5 w h).mono ?_
  rintro e w' ⟨hk, ⟨h1, _⟩ | ⟨_, a, cp, rfl, ho, hf⟩⟩
  · rw [hb] at h1; cases h1
  · exact ⟨a, cp, rfl, ho, hk, hf⟩
end Go.Proofs.Ytgbogbjifpijkaa
