/- A map to whole numbers that the call owns, told by the list of its keys and a function. -/
import Derived.Test.YtdbgplnjppaimaaGreatBase
import Derived.Maps.Own
import Derived.Maps.OwnOps
import Derived.Maps.OwnSet
import Derived.Maps.Views
import Derived.Lib.SlKeysI
open Go Go.RowKit Go.Maps
namespace Go.Proofs.YtdbgplnjppaimaaGreat

/-- Keys of one kind: how they lie, how they read. -/
structure KeyN (P : Program) (kt et : TypeId) {α : Type} (enc : α → Value) (lit : α → Lit) (ok : α → Prop) : Prop where
  key : ∀ x, ok x → keyOf P kt (enc x) = some (lit x)
  inj : ∀ x y, lit x = lit y → x = y
  cov : ∀ v kl, keyOf P kt v = some kl → ∃ x, ok x ∧ v = enc x ∧ kl = lit x
  isk : ∀ x, WideAt.IsKeyLit (lit x)
  law : Keyed P kt
  und : P.underlying et = some (.int .i64)
  zero : ∀ w, (zeroValue et).run P w = .ok (.int .i64 0) w

section
variable {P : Program} {kt et : TypeId} {α : Type} [DecidableEq α] {enc : α → Value} {lit : α → Lit} {ok : α → Prop}
def MapN {P : Program} {kt et : TypeId} {enc : α → Value} {lit : α → Lit} {ok : α → Prop} (_ : KeyN P kt et enc lit ok) (w : World) (b n : Nat) (ks : List α) (f : α → Int) : Prop :=
  (∀ x ∈ ks, ok x) ∧ ∃ D : DataW Unit, w.ownsMap P kt (plainElem P et) b n D ∧ (∀ x, ok x → Maps.has D (lit x) = decide (x ∈ ks)) ∧
    (∀ x, ok x → D.atKey (lit x) (.lit (.int .i64 0)) = .lit (.int .i64 (if x ∈ ks then f x else 0)))
variable {K : KeyN P kt et enc lit ok} {w w' : World} {b n : Nat} {ks : List α} {f : α → Int}
theorem MapN.made (K : KeyN P kt et enc lit ok) (w : World) : MapN K (w.alloc (.map #[] 0)) w.heap.size 0 [] (fun _ => 0) :=
  ⟨by simp, .map [], World.ownsMap_made _ _ _ _, fun x _ => rfl, fun x _ => rfl⟩
theorem MapN.kept {row : Option Nat} (h : MapN K w b n ks f) (hg : w.grownBy w' row) (hne : some b ≠ row) : MapN K w' b n ks f := by
  obtain ⟨h0, D, h1, h2, h3⟩ := h
  exact ⟨h0, D, h1.kept hg hne, h2, h3⟩
theorem MapN.lt (h : MapN K w b n ks f) : b < w.heap.size := h.2.elim fun _ hD => hD.1.lt
theorem MapN.keep {F : Nat → Prop} (h : MapN K w b n ks f) (hk : Keep F w w') (hn : ¬ F b) : MapN K w' b n ks f := by
  obtain ⟨h0, D, h1, h2, h3⟩ := h
  obtain ⟨es, clock, hb, F', hs, hD⟩ := h1
  exact ⟨h0, D, ⟨es, clock, by rw [hk.block b (Array.getElem?_eq_some_iff.1 hb).1 hn]; exact hb, F', hs, hD⟩, h2, h3⟩
theorem MapN.mono (h : MapN K w b n ks f) {n' : Nat} (hn : n ≤ n') : MapN K w b n' ks f := by
  obtain ⟨h0, D, h1, h2, h3⟩ := h
  exact ⟨h0, D, h1.mono hn, h2, h3⟩
theorem MapN.congr (h : MapN K w b n ks f) {ks' : List α} {f' : α → Int} (hk : ∀ x, x ∈ ks' ↔ x ∈ ks) (hf : ∀ x ∈ ks, f' x = f x) : MapN K w b n ks' f' := by
  obtain ⟨h0, D, h1, h2, h3⟩ := h
  refine ⟨fun x hx => h0 x ((hk x).1 hx), D, h1, fun x hx => by rw [h2 x hx, decide_eq_decide]; exact (hk x).symm, fun x hx => ?_⟩
  rw [h3 x hx]
  by_cases hm : x ∈ ks
  · rw [if_pos hm, if_pos ((hk x).2 hm), hf x hm]
  · rw [if_neg hm, if_neg (fun e => hm ((hk x).1 e))]
/-- 'm[k]'. -/
theorem MapN.look (h : MapN K w b n ks f) {t : TypeId} (ht : P.underlying t = some (.map kt et)) {x : α} (hx : ok x) :
    (Instr.lookup t (.map (some b)) (enc x) false).run P w = .ok (.int .i64 (if x ∈ ks then f x else 0)) w := by
  obtain ⟨h0, D, h1, h2, h3⟩ := h
  obtain ⟨v, ps, hrun, hv⟩ := h1.lookup K.law ht (K.zero w) (plainElem_int K.und (by decide)) (K.key x hx)
  obtain ⟨c, rfl, hc, _⟩ := plainElem_int_inv K.und hv
  rw [h3 x hx] at hc
  simp only [Prod.mk.injEq, DataW.lit.injEq, Lit.int.injEq] at hc
  rw [hrun, ← hc.1.2]
/-- 'v, ok := m[k]'. -/
theorem MapN.look_ok (h : MapN K w b n ks f) {t : TypeId} (ht : P.underlying t = some (.map kt et)) {x : α} (hx : ok x) :
    (Instr.lookup t (.map (some b)) (enc x) true).run P w = .ok (.tuple #[.int .i64 (if x ∈ ks then f x else 0), .bool (decide (x ∈ ks))]) w := by
  obtain ⟨h0, D, h1, h2, h3⟩ := h
  obtain ⟨v, ps, hrun, hv⟩ := h1.look_ok K.law ht (K.zero w) (plainElem_int K.und (by decide)) (K.key x hx)
  obtain ⟨c, rfl, hc, _⟩ := plainElem_int_inv K.und hv
  rw [h3 x hx] at hc
  simp only [Prod.mk.injEq, DataW.lit.injEq, Lit.int.injEq] at hc
  rw [hrun, ← hc.1.2, h2 x hx]
/-- 'm[k] = v'. -/
theorem MapN.wpPut (h : MapN K w b n ks f) {ops : Array Oper} {rest : List Oper} {o : Oper} {a : Act} {Q : Exit → Act → World → Prop} {t : TypeId} (ht : P.underlying t = some (.map kt et)) (hn : n < maxLen) {x : α} (hx : ok x) (c : Int) (hc : (Lit.int .i64 c).wf = true)
    (hg : o.guard = none) {m y v : Operand} (hop : o.op = Op.mapUpdate t m y v) (hm : a.eval m = .map (some b)) (hy : a.eval y = enc x) (hv : a.eval v = .int .i64 c)
    (hK : ∀ w', MapN K w' b (n + 1) (x :: ks) (fun z => if z = x then c else f z) → w.grownBy w' (some b) → wpList P ops Q rest (a.put o.dst undef) w') : wpList P ops Q (o :: rest) a w := by
  obtain ⟨h0, D, h1, h2, h3⟩ := h
  refine wpList_mapUpdate_own w hg m y v t hop kt et K.law ht (plainElem P et) b n D hm h1 hn (enc x) (.int .i64 c) (lit x) hy hv (K.key x hx) (.lit (.int .i64 c)) [] (plainElem_int K.und hc) fun w' h4 h5 => hK w' ?_ h5
  have hI : IsMap D := by obtain ⟨es, _, _, _, _, rfl⟩ := h1; exact ⟨_, rfl⟩
  refine ⟨fun z hz => by rcases List.mem_cons.1 hz with rfl | hz; exact hx; exact h0 z hz, D.put (lit x) (.lit (.int .i64 c)), h4, fun z hz => ?_, fun z hz => ?_⟩
  · by_cases e : z = x
    · subst e; rw [has_put_same hI (K.isk z)]; simp
    · rw [has_put_other (fun e' => e (K.inj _ _ e')), h2 z hz]; simp [e]
  · by_cases e : z = x
    · subst e; rw [atKey_put_same hI (K.isk z)]; simp
    · rw [atKey_put_other (fun e' => e (K.inj _ _ e')), h3 z hz]; simp [e]
/-- 'delete(m, k)'. -/
theorem MapN.wpDel (h : MapN K w b n ks f) {ops : Array Oper} {rest : List Oper} {o : Oper} {a : Act} {Q : Exit → Act → World → Prop} {t : TypeId} (ht : P.underlying t = some (.map kt et)) {x : α} (hx : ok x)
    (hg : o.guard = none) {m y : Operand} (hop : o.op = Op.call { callee := Callee.builtin Builtin.delete, args := #[m, y], argTypes := #[t, kt] }) (hm : a.eval m = .map (some b)) (hy : a.eval y = enc x)
    (hK : ∀ w', MapN K w' b n (ks.filter fun z => decide (z ≠ x)) f → w.grownBy w' (some b) → wpList P ops Q rest (a.put o.dst (.tuple #[])) w') : wpList P ops Q (o :: rest) a w := by
  obtain ⟨h0, D, h1, h2, h3⟩ := h
  refine wpList_delete_own w hg m y t kt hop et K.law ht (plainElem P et) b n D hm h1 (enc x) (lit x) hy (K.key x hx) fun w' h4 h5 => hK w' ?_ h5.grown
  refine ⟨fun z hz => h0 z (List.mem_filter.1 hz).1, D.del (lit x), h4, fun z hz => ?_, fun z hz => ?_⟩
  · by_cases e : z = x
    · subst e; rw [has_del_same]; simp
    · rw [has_del_other (fun e' => e (K.inj _ _ e')), h2 z hz]; simp [e]
  · by_cases e : z = x
    · subst e; rw [atKey_del_same]; simp
    · rw [atKey_del_other (fun e' => e (K.inj _ _ e')), h3 z hz]; simp [e]
omit [DecidableEq α] in
theorem hasN_cov {D : DataW Unit} (h : w.ownsMap P kt (plainElem P et) b n D) (K : KeyN P kt et enc lit ok) {x : α} (hx : Maps.has D (lit x) = true) : ok x := by
  obtain ⟨es, rfl, hk⟩ := h.keysOf
  rw [has_eq, List.any_eq_true] at hx
  obtain ⟨p, hp, hs⟩ := hx
  obtain ⟨v, hv⟩ := hk p hp
  obtain ⟨y, hy, _, e⟩ := K.cov v _ hv
  rw [WideAt.sameKey_eq hs] at e
  rw [K.inj _ _ e]; exact hy
theorem MapN.owns (h : MapN K w b n ks f) : ∃ D : DataW Unit, w.ownsMap P kt (plainElem P et) b n D ∧ Maps.size D ≤ n ∧ (∀ x, Maps.has D (lit x) = true ↔ x ∈ ks) := by
  obtain ⟨h0, D, h1, h2, h3⟩ := h
  refine ⟨D, h1, ?_, fun x => ?_⟩
  · obtain ⟨es, clock, _, _, hs, rfl⟩ := h1
    have : Maps.size (DataW.map ((es.toList.map (WideElems.rg P kt (plainElem (H := Unit) P et))).foldr DataW.insert [])) = es.size := by simp [Maps.size, length_sorted]
    rw [this]; exact hs
  · constructor
    · intro hx
      have := h2 x (hasN_cov h1 K hx)
      rw [hx] at this
      simpa using this.symm
    · intro hx
      rw [h2 x (h0 x hx)]; simpa using hx
end
/-- Whole numbers of 64 bits. -/
theorem keyNI {P : Program} {kt et : TypeId} (hk : P.underlying kt = some (.int .i64)) (he : P.underlying et = some (.int .i64)) (hz : ∀ w, (zeroValue et).run P w = .ok (.int .i64 0) w) : KeyN P kt et (α := Int) (.int .i64) (.int .i64) (fun x => (Lit.int .i64 x).wf = true) where
  key := fun x hx => keyOf_int_mk hk hx
  inj := fun x y h => by injection h
  cov := fun v kl h => by obtain ⟨x, h1, h2, h3⟩ := keyOf_i64 hk h; exact ⟨x, h3, h1, h2⟩
  isk := fun x => trivial
  law := int_keyed hk
  und := he
  zero := hz
/-- Texts. -/
theorem keyNS {P : Program} {kt et : TypeId} (hk : P.underlying kt = some .string) (he : P.underlying et = some (.int .i64)) (hz : ∀ w, (zeroValue et).run P w = .ok (.int .i64 0) w) : KeyN P kt et (α := List UInt8) encStr .string (fun x => x.length ≤ maxLen) where
  key := fun x hx => WideMaps.keyOf_string_mk hk (by simpa [ByteArray.size] using hx)
  inj := fun x y h => by injection h
  cov := fun v kl h => by obtain ⟨x, h1, h2, h3⟩ := keyOf_str hk h; exact ⟨x, h3, h1, h2⟩
  isk := fun x => trivial
  law := string_keyed hk
  und := he
  zero := hz

/-- A list of keys: each once. -/
def once {α : Type} [DecidableEq α] : List α → List α
  | [] => []
  | x :: l => if x ∈ l then once l else x :: once l
theorem mem_once {α : Type} [DecidableEq α] {ks : List α} {x : α} : x ∈ once ks ↔ x ∈ ks := by
  induction ks with
  | nil => simp [once]
  | cons y l ih =>
    unfold once
    split
    · rw [ih, List.mem_cons]
      rename_i h
      constructor
      · exact .inr
      · rintro (rfl | h2)
        · exact h
        · exact h2
    · rw [List.mem_cons, List.mem_cons, ih]
theorem nodup_once {α : Type} [DecidableEq α] (ks : List α) : (once ks).Nodup := by
  induction ks with
  | nil => simp [once]
  | cons y l ih =>
    unfold once
    split
    · exact ih
    · rename_i h
      exact List.nodup_cons.2 ⟨fun e => h (mem_once.1 e), ih⟩
end Go.Proofs.YtdbgplnjppaimaaGreat
