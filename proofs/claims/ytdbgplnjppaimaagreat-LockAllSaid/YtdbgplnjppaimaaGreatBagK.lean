/- Small laws on slices whose elements have two cells: copy, clear, append of zero values; no program in sight. -/
import Derived.Test.YtdbgplnjppaimaaGreatKit6
import Derived.Laws.CopyRow
import Derived.Laws.CopyOwn
import Derived.Lib.AppendZerosOnto
import Derived.Lib.Overlaps
open Go Go.RowKit
namespace Go.Proofs.YtdbgplnjppaimaaGreat
section
variable {P : Program}

theorem run_copyN (w : World) (dT sT ty elem : TypeId) (size : Nat) (g o dLen dCap : Nat) (a : Addr) (sLen sCap : Nat) (cur : Array Value) (t : TypeId) (cs : List Value)
    (hu : P.underlying dT = some (.slice elem)) (hs : (P.info? elem).map (·.size) = some size)
    (hg : w.heap[g]? = some (.cells cur t (0, 0))) (hn : cs.length = Nat.min sLen dLen * size)
    (hsrc : ∀ j v, cs[j]? = some v → w.cell? (a.add j) = some v) (hfit : o + cs.length ≤ cur.size) (h1 : ∀ v ∈ cs, v.oneCell' = true) :
    (Builtin.copy_ #[dT, sT] ty #[.slice (some ⟨g, o, none⟩) dLen dCap, .slice (some a) sLen sCap]).run P w =
      .ok (goInt (Nat.min sLen dLen)) (w.setRow g (cur.toList.take o ++ cs ++ cur.toList.drop (o + cs.length)).toArray) := by
  have hl := run_loadCells_list (P := P) w a cs hsrc
  have hst := run_storeCells_at P g o t cs 0 cur w hg (by simpa using hfit) h1
  cases hq : P.info? elem with
  | none => simp [hq] at hs
  | some i =>
    have hi : i.size = size := by simpa [hq] using hs
    simp [Builtin.copy_, run_underlying hu, Builtin.lenOf, Builtin.firstCells, sizeOf, typeInfo, hq, hi, ← hn, hl, hst]

/-- A block's cells with 'cs' laid over from o on. -/
def over (L : List Value) (o : Nat) (cs : List Value) : List Value := L.take o ++ cs ++ L.drop (o + cs.length)
theorem over_length {L : List Value} {o : Nat} {cs : List Value} (h : o + cs.length ≤ L.length) : (over L o cs).length = L.length := by simp [over]; omega
theorem setRow_grown (w : World) (g : Nat) (cs : Array Value) : w.grownBy (w.setRow g cs) (some g) := ⟨rfl, rfl, rfl, by simp [World.setRow], fun k _ hne => setRow_other w g k cs (fun e => hne (by rw [e]))⟩

theorem wp_copyN {o : Oper} {a : Act} {K : Act → World → Prop} {Q : Exit → Act → World → Prop} {w : World} (d s : Operand) (dT sT elem : TypeId) (size : Nat)
    (ho : o.op = .call { callee := .builtin .copy, args := #[d, s], argTypes := #[dT, sT] }) (hu : P.underlying dT = some (.slice elem)) (hs : (P.info? elem).map (·.size) = some size)
    (g off dLen dCap : Nat) (ad : Addr) (sLen sCap : Nat) (hd : a.eval d = .slice (some ⟨g, off, none⟩) dLen dCap) (hsv : a.eval s = .slice (some ad) sLen sCap)
    (cur : List Value) (t : TypeId) (hg : w.heap[g]? = some (.cells cur.toArray t (0, 0))) (cs : List Value) (hn : cs.length = Nat.min sLen dLen * size)
    (hsrc : ∀ j v, cs[j]? = some v → w.cell? (ad.add j) = some v) (hfit : off + cs.length ≤ cur.length) (h1 : ∀ v ∈ cs, v.oneCell' = true)
    (h : ∀ w' q, w'.heap[g]? = some (.cells (over cur off cs).toArray t (0, 0)) → w.grownBy w' (some g) → K (a.put o.dst q) w') : o.wp P a w K Q := by
  have hr := run_copyN (P := P) w dT sT o.type elem size g off dLen dCap ad sLen sCap cur.toArray t cs hu hs hg hn hsrc (by simpa using hfit) h1
  unfold Oper.wp execOp
  simp only [ho, resolve, invoke, builtin, Sem.run_bind, Sem.run_pure, Result.andThen_ok, List.map_toArray, List.map_cons, List.map_nil, hd, hsv, hr]
  exact h _ _ (setRow_heap w g _ _ t _ hg) (setRow_grown w g _)
theorem wpList_copyN {ops : Array Oper} {rest : List Oper} {o : Oper} {a : Act} {Q : Exit → Act → World → Prop} {w : World} (d s : Operand) (dT sT elem : TypeId) (size : Nat) (hgd : o.guard = none)
    (ho : o.op = .call { callee := .builtin .copy, args := #[d, s], argTypes := #[dT, sT] }) (hu : P.underlying dT = some (.slice elem)) (hs : (P.info? elem).map (·.size) = some size)
    (g off dLen dCap : Nat) (ad : Addr) (sLen sCap : Nat) (hd : a.eval d = .slice (some ⟨g, off, none⟩) dLen dCap) (hsv : a.eval s = .slice (some ad) sLen sCap)
    (cur : List Value) (t : TypeId) (hg : w.heap[g]? = some (.cells cur.toArray t (0, 0))) (cs : List Value) (hn : cs.length = Nat.min sLen dLen * size)
    (hsrc : ∀ j v, cs[j]? = some v → w.cell? (ad.add j) = some v) (hfit : off + cs.length ≤ cur.length) (h1 : ∀ v ∈ cs, v.oneCell' = true)
    (h : ∀ w' q, w'.heap[g]? = some (.cells (over cur off cs).toArray t (0, 0)) → w.grownBy w' (some g) → wpList P ops Q rest (a.put o.dst q) w') : wpList P ops Q (o :: rest) a w :=
  wpList_plain hgd fun _ hK => wp_copyN d s dT sT elem size ho hu hs g off dLen dCap ad sLen sCap hd hsv cur t hg cs hn hsrc hfit h1 fun w' q h2 h3 => hK _ _ (h w' q h2 h3)
theorem step_copyN {ops : Array Oper} {o : Oper} {a : Act} {K : Act → World → Prop} {Q : Exit → Act → World → Prop} {E : Prop} {w : World} (d s : Operand) (dT sT elem : TypeId) (size : Nat) (hgd : o.guard = none)
    (ho : o.op = .call { callee := .builtin .copy, args := #[d, s], argTypes := #[dT, sT] }) (hu : P.underlying dT = some (.slice elem)) (hs : (P.info? elem).map (·.size) = some size)
    (g off dLen dCap : Nat) (ad : Addr) (sLen sCap : Nat) (hd : a.eval d = .slice (some ⟨g, off, none⟩) dLen dCap) (hsv : a.eval s = .slice (some ad) sLen sCap)
    (cur : List Value) (t : TypeId) (hg : w.heap[g]? = some (.cells cur.toArray t (0, 0))) (cs : List Value) (hn : cs.length = Nat.min sLen dLen * size)
    (hsrc : ∀ j v, cs[j]? = some v → w.cell? (ad.add j) = some v) (hfit : off + cs.length ≤ cur.length) (h1 : ∀ v ∈ cs, v.oneCell' = true)
    (h : ∀ w' q, w'.heap[g]? = some (.cells (over cur off cs).toArray t (0, 0)) → w.grownBy w' (some g) → K (a.put o.dst q) w') :
    if Region.wanted o (yielded ops a.tmps) = true then Oper.wp P o a w K Q else E := by
  have hw : Region.wanted o (yielded ops a.tmps) = true := by simp [Region.wanted, hgd]
  rw [if_pos hw]
  exact wp_copyN d s dT sT elem size ho hu hs g off dLen dCap ad sLen sCap hd hsv cur t hg cs hn hsrc hfit h1 h

/-- clear of one element. -/
theorem wpList_clearN {ops : Array Oper} {rest : List Oper} {o : Oper} {a : Act} {Q : Exit → Act → World → Prop} {w : World} (d : Operand) (dT elem : TypeId) (z1 z2 : Value) (hgd : o.guard = none)
    (ho : o.op = .call { callee := .builtin .clear, args := #[d], argTypes := #[dT] }) (hu : P.underlying dT = some (.slice elem)) (hz : ∀ w, (zeroValue elem).run P w = .ok (.agg #[z1, z2]) w) (h1 : z1.oneCell' = true) (h2 : z2.oneCell' = true) (hzc : (Value.agg #[z1, z2]).cells = #[z1, z2])
    (g off dCap : Nat) (hd : a.eval d = .slice (some ⟨g, off, none⟩) 1 dCap) (cur : List Value) (t : TypeId) (hg : w.heap[g]? = some (.cells cur.toArray t (0, 0))) (hfit : off + 2 ≤ cur.length)
    (h : ∀ w' q, w'.heap[g]? = some (.cells (over cur off [z1, z2]).toArray t (0, 0)) → w.grownBy w' (some g) → wpList P ops Q rest (a.put o.dst q) w') : wpList P ops Q (o :: rest) a w := by
  refine wpList_plain hgd fun _ hK => ?_
  have hst := run_storeCells_at P g off t [z1, z2] 0 cur.toArray w hg (by simpa using hfit) (by simp [h1, h2])
  have hzz : (Builtin.zeroCells (Value.agg #[z1, z2]).cells 1).toList = [z1, z2] := by
    rw [hzc]
    apply List.ext_getElem
    · simp [size_zeroCells]
    · intro i h3 h4
      have h5 : i = 0 ∨ i = 1 := by simp at h4; omega
      rcases h5 with rfl | rfl <;> simp [Builtin.zeroCells]
  have hr : (Builtin.clear_ #[dT] o.type #[.slice (some ⟨g, off, none⟩) 1 dCap]).run P w = .ok (.tuple #[]) (w.setRow g (cur.take off ++ [z1, z2] ++ cur.drop (off + 2)).toArray) := by
    simp only [Nat.add_zero] at hst
    simp [Builtin.clear_, run_underlying hu, hz, hzz, hst]
  unfold Oper.wp execOp
  simp only [ho, resolve, invoke, builtin, Sem.run_bind, Sem.run_pure, Result.andThen_ok, List.map_toArray, List.map_cons, List.map_nil, hd, hr]
  exact hK _ _ (h _ _ (setRow_heap w g _ _ t _ hg) (setRow_grown w g _))

/-- append(s[:i], make(S, k)...), which does not fit. -/
theorem wpList_appz {ops : Array Oper} {rest : List Oper} {o : Oper} {a : Act} {Q : Exit → Act → World → Prop} {w : World} (t tn e : TypeId) (z : Value) (size bytes : Nat) (hgd : o.guard = none)
    (ht : P.underlying t = some (.slice e)) (htn : P.underlying tn = some (.int .i64)) (hinfo : (P.info? e).map (fun i => (i.zero, i.size, i.bytes)) = some (some z, size, bytes)) (hzs : z.cells.size = size) (hsz : 0 < size)
    {s x : Operand} (ho : o.op = .call { callee := .builtin .append, args := #[s, x], argTypes := #[t, tn] })
    {ao : Option Addr} {n c : Nat} {k : Nat} (hv : a.eval s = .slice ao n c) (hx : a.eval x = .int .i64 (k : Int)) {xs : List Value} (hown : w.ownsRow 0 e size (.slice ao n c) n xs) (hk : 0 < k) (hc : c < n + k)
    (hbytes : (n + k) * bytes ≤ 140737488355328) (hk2 : n + k ≤ 1000000000) (m : Nat) (hm : n + k = m) (g2 : Nat) (hg2 : w.heap.size = g2)
    (h : ∀ w' cp cur, w'.heap[g2]? = some (.cells cur e (0, 0)) → m ≤ cp → cp ≤ maxLen → cur.size = cp * size → cur.toList.take (n * size) = xs → w.grownBy w' none → wpList P ops Q rest (a.put o.dst (.slice (some ⟨g2, 0, none⟩) m cp)) w') : wpList P ops Q (o :: rest) a w := by
  subst hm
  subst hg2
  refine wpList_plain hgd fun _ hK => ?_
  obtain ⟨i, hi, hz, hsize, hby⟩ := info_parts hinfo
  subst hsize
  subst hby
  have hold : (Builtin.firstCells i.size n (.slice ao n c)).run P w.drew = .ok xs.toArray w.drew := by
    rcases hown.2 with ⟨e1, e2⟩ | ⟨g, cap, cur, e1, _, hg, _⟩
    · injection e1 with e3 e4 e5
      subst e3 e4 e5
      have : xs = [] := List.eq_nil_of_length_eq_zero (by simpa using hown.1)
      subst this
      simpa using run_firstCells_none (P := P) w.drew i.size 0 0 0
    · injection e1 with e3 e4 e5
      subst e3 e5
      exact run_firstCells_some (P := P) w.drew i.size n ⟨g, 0, none⟩ n c xs hown.1 (by intro j u hu; have := hown.cells (g := g) rfl j u hu; simpa using this)
  have hr := Lib.run_append_grow_zeros (P := P) w t tn o.type e i z .i64 .i64 ht htn hi hz ao n c xs hold k hk hsz hc (by omega) (by have : k * i.bytes ≤ (n + k) * i.bytes := Nat.mul_le_mul_right _ (by omega); omega) (growslice_fits (by omega) hbytes)
  unfold Oper.wp execOp
  simp only [ho, resolve, invoke, builtin, Sem.run_bind, Sem.run_pure, Result.andThen_ok, List.map_toArray, List.map_cons, List.map_nil, hv, hx, hr]
  have hge := grownCap_ge w (n + k) c e
  refine hK _ _ (h _ _ _ (heap_alloc_new w.drew _) hge (grownCap_le_maxLen w (n + k) c e (by unfold maxLen; omega)) ?_ ?_ ⟨rfl, rfl, rfl, by simp, fun j hj _ => heap_alloc_old w.drew _ hj⟩)
  · simp only [Array.size_append, List.size_toArray, size_zeroCells, hzs, hown.1, ← Nat.add_mul]
    congr 1
    omega
  · simp only [Array.toList_append, List.append_assoc]
    rw [← hown.1]
    exact List.take_left
theorem row_pre {b n s cp : Nat} {w : World} {e : TypeId} {ao : Option Addr} {xs : List Value} (h : w.ownsRow b e s (.slice ao n cp) n xs) (i : Nat) (hi : i ≤ n) : w.ownsRow b e s (.slice ao i cp) i (xs.take (i * s)) := by
  rcases h with ⟨h1, ⟨e1, e2⟩ | ⟨g, cap, cur, e1, hb, hg, h4, h5, h6, h7⟩⟩
  · injection e1 with e3 e4 e5
    subst e3 e5
    obtain rfl : i = 0 := by omega
    exact ⟨by simp, .inl ⟨rfl, rfl⟩⟩
  · injection e1 with e3 e4 e5
    subst e3 e5
    refine ⟨by rw [List.length_take, h1]; exact Nat.min_eq_left (Nat.mul_le_mul_right _ hi), .inr ⟨g, cp, cur, rfl, hb, hg, by omega, h5, h6, ?_⟩⟩
    rw [← h7, List.take_take, Nat.min_eq_left (Nat.mul_le_mul_right _ hi)]
theorem own_cap (ao : Option Addr) (n c c' : Nat) : (Value.slice ao n c).ownBlock = (Value.slice ao n c').ownBlock := by cases ao <;> rfl
theorem src2 {w : World} {q : Nat} {y1 y2 : Value} {T : TypeId} {fz : Nat × Nat} (hq : w.heap[q]? = some (.cells #[y1, y2] T fz)) (h1 : y1.oneCell' = true) (h2 : y2.oneCell' = true) {tx e' : TypeId} (ht : P.underlying tx = some (.slice e')) : Src P 2 tx (.slice (some ⟨q, 0, none⟩) 1 1) 1 [y1, y2] w :=
  Src.ofSlice w ht _ _ _ _ rfl (fun j u hu => by
    have hj : j = 0 ∨ j = 1 := by
      rcases j with _ | _ | j
      · exact .inl rfl
      · exact .inr rfl
      · simp at hu
    rcases hj with rfl | rfl
    · simp at hu; subst hu
      simpa [Addr.add] using cell_of_heap hq 0
    · simp at hu; subst hu
      simpa [Addr.add] using cell_of_heap hq 1) (by simp [h1, h2])
theorem src2_cell {w : World} {q : Nat} {y1 y2 : Value} {T : TypeId} {fz : Nat × Nat} (hq : w.heap[q]? = some (.cells #[y1, y2] T fz)) : ∀ j v, [y1, y2][j]? = some v → w.cell? ((Addr.mk q 0 none).add j) = some v := by
  intro j u hu
  have hj : j = 0 ∨ j = 1 := by
    rcases j with _ | _ | j
    · exact .inl rfl
    · exact .inr rfl
    · simp at hu
  rcases hj with rfl | rfl
  · simp at hu; subst hu
    simpa [Addr.add] using cell_of_heap hq 0
  · simp at hu; subst hu
    simpa [Addr.add] using cell_of_heap hq 1
theorem addr_at (g o j : Nat) : (Addr.mk g o none).add j = ⟨g, o + j, none⟩ := by
  by_cases h0 : j = 0 <;> simp [Addr.add, h0]
theorem ins_cells1 {xs cur : List Value} {n i : Nat} {y1 y2 : Value} (hl : xs.length = n * 2) (hi : i ≤ n) (htk : cur.take (i * 2) = xs.take (i * 2)) :
    (over (over cur (i * 2) [y1, y2]) ((i + 1) * 2) (xs.drop (i * 2))).take ((n + 1) * 2) = xs.take (i * 2) ++ [y1, y2] ++ xs.drop (i * 2) := by
  have e1 : (over cur (i * 2) [y1, y2]).take ((i + 1) * 2) = xs.take (i * 2) ++ [y1, y2] := by
    unfold over
    rw [htk]
    exact List.take_left' (by simp [hl]; omega)
  rw [over, e1]
  exact List.take_left' (by simp [hl]; omega)
theorem ins_cells2 {xs cur : List Value} {n i cp : Nat} {y1 y2 : Value} (hl : xs.length = n * 2) (hc : cur.length = cp * 2) (hcp : n + 1 ≤ cp) (hi : i ≤ n) (htk : cur.take (n * 2) = xs) :
    (over (over cur ((i + 1) * 2) (xs.drop (i * 2))) (i * 2) [y1, y2]).take ((n + 1) * 2) = xs.take (i * 2) ++ [y1, y2] ++ xs.drop (i * 2) := by
  have e0 : (over cur ((i + 1) * 2) (xs.drop (i * 2))).take (i * 2) = xs.take (i * 2) := by
    unfold over
    rw [List.append_assoc, List.take_append_of_le_length (by simp [hc]; omega), List.take_take, Nat.min_eq_left (by omega), ← htk, List.take_take, Nat.min_eq_left (by omega)]
  have e1 : (over cur ((i + 1) * 2) (xs.drop (i * 2))).drop (i * 2 + [y1, y2].length) = xs.drop (i * 2) ++ cur.drop ((i + 1) * 2 + (xs.drop (i * 2)).length) := by
    unfold over
    rw [List.append_assoc]
    exact List.drop_left' (by simp [hc]; omega)
  rw [over, e0, e1]
  rw [← List.append_assoc]
  exact List.take_left' (by simp [hl]; omega)
/-- append that fits. -/
theorem step_appRoom {ops : Array Oper} {o : Oper} {a : Act} {K : Act → World → Prop} {Q : Exit → Act → World → Prop} {E : Prop} {w : World} (s x : Operand) (t tx e : TypeId) (z : Value) (size bytes : Nat) (hgd : o.guard = none)
    (ho : o.op = .call { callee := .builtin .append, args := #[s, x], argTypes := #[t, tx] }) (ht : P.underlying t = some (.slice e)) (hinfo : (P.info? e).map (fun i => (i.zero, i.size, i.bytes)) = some (some z, size, bytes))
    (g n cap m r : Nat) (sv : Value) (hv : a.eval s = .slice (some ⟨g, 0, none⟩) n cap) (hsv : a.eval x = sv) (cur : List Value) (hg : w.heap[g]? = some (.cells cur.toArray e (0, 0))) (news : List Value) (hs : Src P size tx sv m news w)
    (hroom : n + m ≤ cap) (hr : n + m = r) (hc : cur.length = cap * size)
    (h : ∀ w', w'.heap[g]? = some (.cells (over cur (n * size) news).toArray e (0, 0)) → w.grownBy w' (some g) → K (a.put o.dst (.slice (some ⟨g, 0, none⟩) r cap)) w') :
    if Region.wanted o (yielded ops a.tmps) = true then Oper.wp P o a w K Q else E := by
  have hw : Region.wanted o (yielded ops a.tmps) = true := by simp [Region.wanted, hgd]
  rw [if_pos hw]
  subst hr
  obtain ⟨i, hi, hz, hsize, hby⟩ := info_parts hinfo
  subst hsize
  have hfit : n * i.size + news.length ≤ cur.length := by rw [hs.newsLen, hc, ← Nat.add_mul]; exact Nat.mul_le_mul_right _ hroom
  have hrun := run_append_room_src (P := P) w t tx o.type e i ht hi g 0 n cap sv m news hs hroom
    (fun j hj => by rw [cell_of_row w g _ cur.toArray e (0, 0) hg]; simp; omega) (fun j _ => by simp [World.frozen?, hg])
  obtain ⟨h1, h2⟩ := World.setCells_spec g e news w (n * i.size) cur.toArray hg (by simpa using hfit)
  simp only [Nat.zero_add] at hrun
  unfold Oper.wp execOp
  simp only [ho, resolve, invoke, builtin, Sem.run_bind, Sem.run_pure, Result.andThen_ok, List.map_toArray, List.map_cons, List.map_nil, hv, hsv, hrun]
  exact h _ h1 h2
theorem del_cells {xs cur : List Value} {k i : Nat} {z1 z2 : Value} (hl : xs.length = (k + 1) * 2) (hi : i ≤ k) (htk : cur.take ((k + 1) * 2) = xs) :
    (over (over cur (i * 2) (xs.drop ((i + 1) * 2))) (k * 2) [z1, z2]).take (k * 2) = xs.take (i * 2) ++ xs.drop ((i + 1) * 2) := by
  have hdl : (xs.drop ((i + 1) * 2)).length = (k - i) * 2 := by rw [List.length_drop, hl]; omega
  have e0 : (over cur (i * 2) (xs.drop ((i + 1) * 2))).take (k * 2) = xs.take (i * 2) ++ xs.drop ((i + 1) * 2) := by
    unfold over
    have e1 : cur.take (i * 2) = xs.take (i * 2) := by rw [← htk, List.take_take, Nat.min_eq_left (by omega)]
    rw [e1]
    exact List.take_left' (by rw [List.length_append, hdl, List.length_take, hl]; omega)
  unfold over at e0 ⊢
  rw [e0, List.append_assoc]
  exact List.take_left' (by rw [List.length_append, hdl, List.length_take, hl]; omega)
end
end Go.Proofs.YtdbgplnjppaimaaGreat
