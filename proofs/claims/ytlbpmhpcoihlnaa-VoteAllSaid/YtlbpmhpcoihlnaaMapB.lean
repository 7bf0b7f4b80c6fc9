/- A map of truths that the call owns, told by the list of its keys and a function. -/
import Derived.Test.YtlbpmhpcoihlnaaBase
import Derived.Maps.Own
import Derived.Maps.OwnOps
import Derived.Maps.OwnSet
import Derived.Maps.Views
import Derived.Lib.SlKeysI
open Go Go.RowKit Go.Maps
namespace Go.Proofs.Ytlbpmhpcoihlnaa

/-- Keys of one kind: how they lie, how they read. -/
structure KeyK (P : Program) (kt et : TypeId) {α : Type} (enc : α → Value) (lit : α → Lit) (ok : α → Prop) : Prop where
  key : ∀ x, ok x → keyOf P kt (enc x) = some (lit x)
  inj : ∀ x y, lit x = lit y → x = y
  cov : ∀ v kl, keyOf P kt v = some kl → ∃ x, ok x ∧ v = enc x ∧ kl = lit x
  isk : ∀ x, WideAt.IsKeyLit (lit x)
  law : Keyed P kt
  und : P.underlying et = some .bool
  zero : ∀ w, (zeroValue et).run P w = .ok (.bool false) w

/-- Is it on the list? -/
def memB {α : Type} [DecidableEq α] (x : α) (l : List α) : Bool := decide (x ∈ l)
theorem memB_iff {α : Type} [DecidableEq α] {x : α} {l : List α} : memB x l = true ↔ x ∈ l := by simp [memB]
theorem memB_yes {α : Type} [DecidableEq α] {x : α} {l : List α} (h : x ∈ l) : memB x l = true := memB_iff.2 h
theorem memB_no {α : Type} [DecidableEq α] {x : α} {l : List α} (h : x ∉ l) : memB x l = false := by simp [memB, h]

section
variable {P : Program} {kt et : TypeId} {α : Type} [DecidableEq α] {enc : α → Value} {lit : α → Lit} {ok : α → Prop}
def MapB {P : Program} {kt et : TypeId} {enc : α → Value} {lit : α → Lit} {ok : α → Prop} (_ : KeyK P kt et enc lit ok) (w : World) (b n : Nat) (ks : List α) (f : α → Bool) : Prop :=
  (∀ x ∈ ks, ok x) ∧ ∃ D : DataW Unit, w.ownsMap P kt (plainElem P et) b n D ∧ (∀ x, ok x → Maps.has D (lit x) = decide (x ∈ ks)) ∧
    (∀ x, ok x → D.atKey (lit x) (.lit (.bool false)) = .lit (.bool (decide (x ∈ ks) && f x)))
variable {K : KeyK P kt et enc lit ok} {w w' : World} {b n : Nat} {ks : List α} {f : α → Bool}
theorem MapB.made (K : KeyK P kt et enc lit ok) (w : World) : MapB K (w.alloc (.map #[] 0)) w.heap.size 0 [] (fun _ => false) :=
  ⟨by simp, .map [], World.ownsMap_made _ _ _ _, fun x _ => rfl, fun x _ => rfl⟩
theorem MapB.kept {row : Option Nat} (h : MapB K w b n ks f) (hg : w.grownBy w' row) (hne : some b ≠ row) : MapB K w' b n ks f := by
  obtain ⟨h0, D, h1, h2, h3⟩ := h
  exact ⟨h0, D, h1.kept hg hne, h2, h3⟩
theorem MapB.lt (h : MapB K w b n ks f) : b < w.heap.size := h.2.elim fun _ hD => hD.1.lt
theorem MapB.keep {F : Nat → Prop} (h : MapB K w b n ks f) (hk : Keep F w w') (hn : ¬ F b) : MapB K w' b n ks f := by
  obtain ⟨h0, D, h1, h2, h3⟩ := h
  obtain ⟨es, clock, hb, F', hs, hD⟩ := h1
  exact ⟨h0, D, ⟨es, clock, by rw [hk.block b (Array.getElem?_eq_some_iff.1 hb).1 hn]; exact hb, F', hs, hD⟩, h2, h3⟩
theorem MapB.mono (h : MapB K w b n ks f) {n' : Nat} (hn : n ≤ n') : MapB K w b n' ks f := by
  obtain ⟨h0, D, h1, h2, h3⟩ := h
  exact ⟨h0, D, h1.mono hn, h2, h3⟩
theorem MapB.congr (h : MapB K w b n ks f) {ks' : List α} {f' : α → Bool} (hk : ∀ x, x ∈ ks' ↔ x ∈ ks) (hf : ∀ x ∈ ks, f' x = f x) : MapB K w b n ks' f' := by
  obtain ⟨h0, D, h1, h2, h3⟩ := h
  refine ⟨fun x hx => h0 x ((hk x).1 hx), D, h1, fun x hx => by rw [h2 x hx, decide_eq_decide]; exact (hk x).symm, fun x hx => ?_⟩
  rw [h3 x hx]
  by_cases hm : x ∈ ks
  · rw [hf x hm]; simp [hm, (hk x).2 hm]
  · have : x ∉ ks' := fun e => hm ((hk x).1 e)
    simp [hm, this]
theorem plainElem_bool_inv {H : Type} {v : Value} {z : DataW H × List MemPlace} (he : P.underlying et = some .bool) (h : plainElem P et v = some z) : ∃ c, v = .bool c ∧ z = (.lit (.bool c), []) := by
  cases v <;> simp [plainElem, he] at h
  exact ⟨_, rfl, h.symm⟩
/-- 'm[k]'. -/
theorem MapB.look (h : MapB K w b n ks f) {t : TypeId} (ht : P.underlying t = some (.map kt et)) {x : α} (hx : ok x) :
    (Instr.lookup t (.map (some b)) (enc x) false).run P w = .ok (.bool (memB x ks && f x)) w := by
  unfold memB
  obtain ⟨h0, D, h1, h2, h3⟩ := h
  obtain ⟨v, ps, hrun, hv⟩ := h1.lookup K.law ht (K.zero w) (plainElem_bool K.und false) (K.key x hx)
  obtain ⟨c, rfl, hc⟩ := plainElem_bool_inv K.und hv
  rw [h3 x hx] at hc
  simp only [Prod.mk.injEq, DataW.lit.injEq, Lit.bool.injEq] at hc
  rw [hrun, ← hc.1]
/-- 'v, ok := m[k]'. -/
theorem MapB.look_ok (h : MapB K w b n ks f) {t : TypeId} (ht : P.underlying t = some (.map kt et)) {x : α} (hx : ok x) :
    (Instr.lookup t (.map (some b)) (enc x) true).run P w = .ok (.tuple #[.bool (memB x ks && f x), .bool (memB x ks)]) w := by
  unfold memB
  obtain ⟨h0, D, h1, h2, h3⟩ := h
  obtain ⟨v, ps, hrun, hv⟩ := h1.look_ok K.law ht (K.zero w) (plainElem_bool K.und false) (K.key x hx)
  obtain ⟨c, rfl, hc⟩ := plainElem_bool_inv K.und hv
  rw [h3 x hx] at hc
  simp only [Prod.mk.injEq, DataW.lit.injEq, Lit.bool.injEq] at hc
  rw [hrun, ← hc.1, h2 x hx]
/-- 'm[k] = v'. -/
theorem MapB.wpPut (h : MapB K w b n ks f) {ops : Array Oper} {rest : List Oper} {o : Oper} {a : Act} {Q : Exit → Act → World → Prop} {t : TypeId} (ht : P.underlying t = some (.map kt et)) (hn : n < maxLen) {x : α} (hx : ok x) (c : Bool)
    (hg : o.guard = none) {m y v : Operand} (hop : o.op = Op.mapUpdate t m y v) (hm : a.eval m = .map (some b)) (hy : a.eval y = enc x) (hv : a.eval v = .bool c)
    (hK : ∀ w', MapB K w' b (n + 1) (x :: ks) (fun z => if z = x then c else f z) → w.grownBy w' (some b) → wpList P ops Q rest (a.put o.dst undef) w') : wpList P ops Q (o :: rest) a w := by
  obtain ⟨h0, D, h1, h2, h3⟩ := h
  refine wpList_mapUpdate_own w hg m y v t hop kt et K.law ht (plainElem P et) b n D hm h1 hn (enc x) (.bool c) (lit x) hy hv (K.key x hx) (.lit (.bool c)) [] (plainElem_bool K.und c) fun w' h4 h5 => hK w' ?_ h5
  have hI : IsMap D := by obtain ⟨es, _, _, _, _, rfl⟩ := h1; exact ⟨_, rfl⟩
  refine ⟨fun z hz => by rcases List.mem_cons.1 hz with rfl | hz; exact hx; exact h0 z hz, D.put (lit x) (.lit (.bool c)), h4, fun z hz => ?_, fun z hz => ?_⟩
  · by_cases e : z = x
    · subst e; rw [has_put_same hI (K.isk z)]; simp
    · rw [has_put_other (fun e' => e (K.inj _ _ e')), h2 z hz]; simp [e]
  · by_cases e : z = x
    · subst e; rw [atKey_put_same hI (K.isk z)]; simp
    · rw [atKey_put_other (fun e' => e (K.inj _ _ e')), h3 z hz]; simp [e]
omit [DecidableEq α] in
theorem has_cov {D : DataW Unit} (h : w.ownsMap P kt (plainElem P et) b n D) (K : KeyK P kt et enc lit ok) {x : α} (hx : Maps.has D (lit x) = true) : ok x := by
  obtain ⟨es, rfl, hk⟩ := h.keysOf
  rw [has_eq, List.any_eq_true] at hx
  obtain ⟨p, hp, hs⟩ := hx
  obtain ⟨v, hv⟩ := hk p hp
  obtain ⟨y, hy, _, e⟩ := K.cov v _ hv
  rw [WideAt.sameKey_eq hs] at e
  rw [K.inj _ _ e]; exact hy
/-- 'len(m) > 0'. -/
theorem MapB.size (h : MapB K w b n ks f) {t : TypeId} (ht : P.underlying t = some (.map kt et)) (ty : TypeId) :
    ∃ s : Nat, (Builtin.len_ #[t] ty #[.map (some b)]).run P w = .ok (.int .i64 s) w ∧ (s = 0 ↔ ks = []) := by
  obtain ⟨h0, D, h1, h2, h3⟩ := h
  refine ⟨Maps.size D, h1.len ht ty, ?_⟩
  obtain ⟨es, rfl, hk⟩ := h1.keysOf
  rw [size_eq]
  constructor
  · intro he
    have he := List.eq_nil_of_length_eq_zero he
    subst he
    cases ks with
    | nil => rfl
    | cons x l =>
      have := h2 x (h0 x (by simp))
      simp [has_eq] at this
  · intro hks
    subst hks
    cases es with
    | nil => rfl
    | cons p l =>
      obtain ⟨v, hv⟩ := hk p (by simp)
      obtain ⟨y, hy, _, e⟩ := K.cov v _ hv
      have h4 := h2 y hy
      rw [has_eq, List.any_cons, e, WideAt.sameKey_self (K.isk y)] at h4
      simp at h4
theorem MapB.owns (h : MapB K w b n ks f) : ∃ D : DataW Unit, w.ownsMap P kt (plainElem P et) b n D ∧ Maps.size D ≤ n ∧ (∀ x, Maps.has D (lit x) = true ↔ x ∈ ks) := by
  obtain ⟨h0, D, h1, h2, h3⟩ := h
  refine ⟨D, h1, ?_, fun x => ?_⟩
  · obtain ⟨es, clock, _, _, hs, rfl⟩ := h1
    have : Maps.size (DataW.map ((es.toList.map (WideElems.rg P kt (plainElem (H := Unit) P et))).foldr DataW.insert [])) = es.size := by simp [Maps.size, length_sorted]
    rw [this]; exact hs
  · constructor
    · intro hx
      have := h2 x (has_cov h1 K hx)
      rw [hx] at this
      simpa using this.symm
    · intro hx
      rw [h2 x (h0 x hx)]; simpa using hx
end
/-- Whole numbers of 64 bits. -/
theorem keyI {P : Program} {kt et : TypeId} (hk : P.underlying kt = some (.int .i64)) (he : P.underlying et = some .bool) (hz : ∀ w, (zeroValue et).run P w = .ok (.bool false) w) : KeyK P kt et (α := Int) (.int .i64) (.int .i64) (fun x => (Lit.int .i64 x).wf = true) where
  key := fun x hx => keyOf_int_mk hk hx
  inj := fun x y h => by injection h
  cov := fun v kl h => by obtain ⟨x, h1, h2, h3⟩ := keyOf_i64 hk h; exact ⟨x, h3, h1, h2⟩
  isk := fun x => trivial
  law := int_keyed hk
  und := he
  zero := hz
/-- Texts. -/
theorem keyS {P : Program} {kt et : TypeId} (hk : P.underlying kt = some .string) (he : P.underlying et = some .bool) (hz : ∀ w, (zeroValue et).run P w = .ok (.bool false) w) : KeyK P kt et (α := List UInt8) encStr .string (fun x => x.length ≤ maxLen) where
  key := fun x hx => WideMaps.keyOf_string_mk hk (by simpa [ByteArray.size] using hx)
  inj := fun x y h => by injection h
  cov := fun v kl h => by obtain ⟨x, h1, h2, h3⟩ := keyOf_str hk h; exact ⟨x, h3, h1, h2⟩
  isk := fun x => trivial
  law := string_keyed hk
  und := he
  zero := hz
end Go.Proofs.Ytlbpmhpcoihlnaa
