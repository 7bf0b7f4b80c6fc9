/- Maps of the lock's and the sessions': to pointers; to whole numbers of 64 bits; how many keys; ranged over. -/
import Derived.Test.YtdbgplnjppaimaaGreatTim2L
import Derived.Test.YtdbgplnjppaimaaGreatRowk
import Derived.Test.YtdbgplnjppaimaaGreatLawBase
import Derived.Maps.RangeWalk
open Go Go.Proofs Go.RowKit Go.Maps Go.Sort Go.Shelf
namespace Go.Proofs.YtdbgplnjppaimaaGreat
/-- A pointer to a block, read as the block's number. -/
def ptrR (v : Value) : Option (DataW Unit × List MemPlace) := match v with
  | .pointer none => some (.lit (.int .i64 (-1)), [])
  | .pointer (some ⟨b, 0, none⟩) => some (.lit (.int .i64 b), [])
  | _ => none
theorem ptrR_inv {v : Value} {p : DataW Unit × List MemPlace} (h : ptrR v = some p) : (v = .pointer none ∧ p = (.lit (.int .i64 (-1)), [])) ∨ ∃ b : Nat, v = .pointer (some ⟨b, 0, none⟩) ∧ p = (.lit (.int .i64 b), []) := by
  unfold ptrR at h
  split at h
  · exact .inl ⟨rfl, (Option.some.inj h).symm⟩
  · exact .inr ⟨_, rfl, (Option.some.inj h).symm⟩
  · cases h
def KI (x : Int) : Prop := (Lit.int .i64 x).wf = true
/-- A map to pointers that the call owns: keys ks, the block of each. -/
def MapP (kt : TypeId) (w : World) (b n : Nat) (ks : List Int) (f : Int → Nat) : Prop :=
  (∀ x ∈ ks, KI x) ∧ ∃ D : DataW Unit, w.ownsMap Tryz.prog kt ptrR b n D ∧ (∀ x, KI x → Maps.has D (.int .i64 x) = decide (x ∈ ks)) ∧
    (∀ x, KI x → D.atKey (.int .i64 x) (.lit (.int .i64 (-1))) = .lit (.int .i64 (if x ∈ ks then (f x : Int) else -1)))
theorem keyI {kt : TypeId} (hk : Tryz.prog.underlying kt = some (.int .i64)) {x : Int} (hx : KI x) : keyOf Tryz.prog kt (.int .i64 x) = some (.int .i64 x) := keyOf_int_mk hk hx
section
variable {kt : TypeId} {w w' : World} {b n : Nat} {ks : List Int} {f : Int → Nat}
theorem MapP.made (kt : TypeId) (w : World) : MapP kt (w.alloc (.map #[] 0)) w.heap.size 0 [] (fun _ => 0) :=
  ⟨by simp, .map [], World.ownsMap_made _ _ _ _, fun x _ => rfl, fun x _ => rfl⟩
theorem MapP.lt (h : MapP kt w b n ks f) : b < w.heap.size := h.2.elim fun _ hD => hD.1.lt
theorem MapP.keep {F : Nat → Prop} (h : MapP kt w b n ks f) (hk : Keep F w w') (hn : ¬ F b) : MapP kt w' b n ks f := by
  obtain ⟨h0, D, h1, h2, h3⟩ := h
  obtain ⟨es, clock, hb, F', hs, hD⟩ := h1
  exact ⟨h0, D, ⟨es, clock, by rw [hk.block b (Array.getElem?_eq_some_iff.1 hb).1 hn]; exact hb, F', hs, hD⟩, h2, h3⟩
theorem MapP.mono (h : MapP kt w b n ks f) {n' : Nat} (hn : n ≤ n') : MapP kt w b n' ks f := by
  obtain ⟨h0, D, h1, h2, h3⟩ := h
  exact ⟨h0, D, h1.mono hn, h2, h3⟩
theorem MapP.look (h : MapP kt w b n ks f) (hk : Tryz.prog.underlying kt = some (.int .i64)) {et : TypeId} (hz : ∀ w, (zeroValue et).run Tryz.prog w = .ok (.pointer none) w) {t : TypeId} (ht : Tryz.prog.underlying t = some (.map kt et)) {x : Int} (hx : KI x) :
    (Instr.lookup t (.map (some b)) (.int .i64 x) false).run Tryz.prog w = .ok (.pointer (if x ∈ ks then some ⟨f x, 0, none⟩ else none)) w := by
  obtain ⟨h0, D, h1, h2, h3⟩ := h
  obtain ⟨v, ps, hrun, hv⟩ := h1.lookup (int_keyed hk) ht (hz w) (by rfl : ptrR (.pointer none) = some (.lit (.int .i64 (-1)), [])) (keyI hk hx)
  rw [h3 x hx] at hv
  rw [hrun]
  rcases ptrR_inv hv with ⟨rfl, hc⟩ | ⟨c, rfl, hc⟩
  · simp only [Prod.mk.injEq, DataW.lit.injEq, Lit.int.injEq] at hc
    by_cases hm : x ∈ ks
    · rw [if_pos hm] at hc; have := hc.1.2; omega
    · rw [if_neg hm]
  · simp only [Prod.mk.injEq, DataW.lit.injEq, Lit.int.injEq] at hc
    by_cases hm : x ∈ ks
    · rw [if_pos hm] at hc ⊢
      have : f x = c := by have := hc.1.2; omega
      rw [this]
    · rw [if_neg hm] at hc; have := hc.1.2; omega
theorem MapP.wpPut (h : MapP kt w b n ks f) (hk : Tryz.prog.underlying kt = some (.int .i64)) {et : TypeId} {ops : Array Oper} {rest : List Oper} {o : Oper} {a : Act} {Q : Exit → Act → World → Prop} {t : TypeId} (ht : Tryz.prog.underlying t = some (.map kt et)) (hn : n < maxLen) {x : Int} (hx : KI x) (c : Nat)
    (hg : o.guard = none) {m y v : Operand} (hop : o.op = Op.mapUpdate t m y v) (hm : a.eval m = .map (some b)) (hy : a.eval y = .int .i64 x) (hv : a.eval v = .pointer (some ⟨c, 0, none⟩))
    (hK : ∀ w', MapP kt w' b (n + 1) (x :: ks) (fun z => if z = x then c else f z) → w.grownBy w' (some b) → wpList Tryz.prog ops Q rest (a.put o.dst undef) w') : wpList Tryz.prog ops Q (o :: rest) a w := by
  obtain ⟨h0, D, h1, h2, h3⟩ := h
  refine wpList_mapUpdate_own w hg m y v t hop kt et (int_keyed hk) ht ptrR b n D hm h1 hn (.int .i64 x) (.pointer (some ⟨c, 0, none⟩)) (.int .i64 x) hy hv (keyI hk hx) (.lit (.int .i64 c)) [] rfl fun w' h4 h5 => hK w' ?_ h5
  have hI : IsMap D := by obtain ⟨es, _, _, _, _, rfl⟩ := h1; exact ⟨_, rfl⟩
  refine ⟨fun z hz => by rcases List.mem_cons.1 hz with rfl | hz; exact hx; exact h0 z hz, D.put (.int .i64 x) (.lit (.int .i64 c)), h4, fun z hz => ?_, fun z hz => ?_⟩
  · by_cases e : z = x
    · subst e; rw [has_put_same hI (show WideAt.IsKeyLit (.int .i64 z) from trivial)]; simp
    · rw [has_put_other (fun e' => e (by injection e')), h2 z hz]; simp [e]
  · by_cases e : z = x
    · subst e; rw [atKey_put_same hI (show WideAt.IsKeyLit (.int .i64 z) from trivial)]; simp
    · rw [atKey_put_other (fun e' => e (by injection e')), h3 z hz]; simp [e]
theorem MapP.wpDel (h : MapP kt w b n ks f) (hk : Tryz.prog.underlying kt = some (.int .i64)) {et : TypeId} {ops : Array Oper} {rest : List Oper} {o : Oper} {a : Act} {Q : Exit → Act → World → Prop} {t : TypeId} (ht : Tryz.prog.underlying t = some (.map kt et)) {x : Int} (hx : KI x)
    (hg : o.guard = none) {m y : Operand} (hop : o.op = Op.call { callee := Callee.builtin Builtin.delete, args := #[m, y], argTypes := #[t, kt] }) (hm : a.eval m = .map (some b)) (hy : a.eval y = .int .i64 x)
    (hK : ∀ w', MapP kt w' b n (ks.filter fun z => decide (z ≠ x)) f → w.grownBy w' (some b) → wpList Tryz.prog ops Q rest (a.put o.dst (.tuple #[])) w') : wpList Tryz.prog ops Q (o :: rest) a w := by
  obtain ⟨h0, D, h1, h2, h3⟩ := h
  refine wpList_delete_own w hg m y t kt hop et (int_keyed hk) ht ptrR b n D hm h1 (.int .i64 x) (.int .i64 x) hy (keyI hk hx) fun w' h4 h5 => hK w' ?_ h5.grown
  refine ⟨fun z hz => h0 z (List.mem_filter.1 hz).1, D.del (.int .i64 x), h4, fun z hz => ?_, fun z hz => ?_⟩
  · by_cases e : z = x
    · subst e; rw [has_del_same]; simp
    · rw [has_del_other (fun e' => e (by injection e')), h2 z hz]; simp [e]
  · by_cases e : z = x
    · subst e; rw [atKey_del_same]; simp
    · rw [atKey_del_other (fun e' => e (by injection e')), h3 z hz]; simp [e]
end
theorem zp13 (w : World) : (zeroValue 70).run Tryz.prog w = .ok (.pointer none) w := by kernel_rfl
theorem zl13 (w : World) : (zeroValue 2).run Tryz.prog w = .ok (.int .i64 0) w := by kernel_rfl
theorem KNM : KeyN Tryz.prog 2 2 (α := Int) (.int .i64) (.int .i64) (fun x => (Lit.int .i64 x).wf = true) := keyNI Tryz.underlying2 Tryz.underlying2 zl13
theorem permM {w : World} {b n : Nat} {D : DataW Unit} (h : w.ownsMap Tryz.prog 2 (plainElem Tryz.prog 2) b n D) {ks : List Int} (hm : ∀ x, Maps.has D (.int .i64 x) = true ↔ x ∈ ks) : (once ks).Perm (intKeys D) := by
  obtain ⟨es, rfl, hk⟩ := h.keysOf
  obtain ⟨es', e, hp⟩ := h.tidy KNM.law
  injection e with e
  subst e
  refine perm_intKeys hp (fun q hq => ?_) (nodup_once ks) (fun x => by rw [mem_once]; exact (hm x).symm)
  obtain ⟨v, hv⟩ := hk q hq
  obtain ⟨x, _, e, _⟩ := keyOf_i64 Tryz.underlying2 hv
  exact ⟨x, e⟩
/-- 'len(m)'. -/
theorem lenM {w : World} {b n : Nat} {ks : List Int} {f : Int → Int} (h : MapN KNM w b n ks f) (ty : TypeId) : (Builtin.len_ #[75] ty #[.map (some b)]).run Tryz.prog w = .ok (.int .i64 ((once ks).length : Nat)) w := by
  obtain ⟨D, h1, h2, h3⟩ := h.owns
  have e : Maps.size D = (once ks).length := by
    rw [(permM h1 h3).length_eq]
    obtain ⟨es, rfl, hk⟩ := h1.keysOf
    simp [Maps.size, intKeys]
  rw [← e]
  exact h1.len Tryz.underlying75 ty
end Go.Proofs.YtdbgplnjppaimaaGreat
