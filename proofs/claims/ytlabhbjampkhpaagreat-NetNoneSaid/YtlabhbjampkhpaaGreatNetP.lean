/- A net, plain: packets by their bytes. -/
import Derived.Test.YtlabhbjampkhpaaGreatNetT
open Go Go.Proofs Go.RowKit
namespace Go.Proofs.YtlabhbjampkhpaaGreat
def encP (p : PackV) : ByteArray := bstr (wireB p)
def GoodP (p : PackV) : Prop := p.Ok ∧ packB p = true
theorem encP_size (p : PackV) : (encP p).size = 21 := (bstr_size (wireB p)).trans (wireB_length p)
theorem encP_ok (p : PackV) : okS (encP p) := encP_size p
theorem bstr_inj {a b : List UInt8} (h : bstr a = bstr b) : a = b := by
  have : (bstr a).data.toList = (bstr b).data.toList := by rw [h]
  simpa [bstr] using this
theorem encP_inj {p q : PackV} (hp : GoodP p) (hq : GoodP q) (h : encP p = encP q) : p = q := wireB_inj hp.1 hq.1 hp.2 hq.2 (bstr_inj h)
/-- A packet in its place. -/
def insP (p : PackV) (ps : List PackV) : List PackV := (ps.takeWhile fun q => decide (keyS (encP q) ≤ keyS (encP p))) ++ p :: (ps.dropWhile fun q => decide (keyS (encP q) ≤ keyS (encP p)))
theorem ins_map (p : PackV) (ps : List PackV) : (insP p ps).map encP = insS (encP p) (ps.map encP) := by
  unfold insP insS
  simp only [List.map_append, List.map_cons, List.takeWhile_map, List.dropWhile_map, Function.comp_def]
theorem insP_perm (p : PackV) (ps : List PackV) : (insP p ps).Perm (p :: ps) := by
  unfold insP
  refine (List.perm_middle).trans ?_
  rw [List.takeWhile_append_dropWhile]
theorem insP_length (p : PackV) (ps : List PackV) : (insP p ps).length = ps.length + 1 := by
  rw [(insP_perm p ps).length_eq]; rfl
theorem insP_good {p : PackV} {ps : List PackV} (hp : GoodP p) (h : ∀ q ∈ ps, GoodP q) : ∀ q ∈ insP p ps, GoodP q := fun q hq => by
  rcases List.mem_cons.1 ((insP_perm p ps).mem_iff.1 hq) with rfl | hq
  · exact hp
  · exact h q hq
def atP (ps : List PackV) (i : Int) : Option PackV := if i < 0 then none else ps[i.toNat]?
def lookP (ps : List PackV) (i : Int) : PackV := (atP ps i).getD PackV.zero
def inP (ps : List PackV) (i : Int) : Bool := decide (0 ≤ i) && decide (i < ps.length)
theorem atP_in {ps : List PackV} {i : Int} (h : inP ps i = true) : ∃ (hi : i.toNat < ps.length), atP ps i = some ps[i.toNat] ∧ lookP ps i = ps[i.toNat] ∧ 0 ≤ i := by
  unfold inP at h
  simp only [Bool.and_eq_true, decide_eq_true_eq] at h
  have hi : i.toNat < ps.length := by omega
  have e : atP ps i = some ps[i.toNat] := by unfold atP; rw [if_neg (by omega), List.getElem?_eq_getElem hi]
  exact ⟨hi, e, by unfold lookP; rw [e]; rfl, h.1⟩
theorem atP_out {ps : List PackV} {i : Int} (h : inP ps i = false) : atP ps i = none ∧ lookP ps i = PackV.zero := by
  have e : atP ps i = none := by
    unfold inP at h
    unfold atP
    split
    · rfl
    · simp at h
      exact List.getElem?_eq_none (by have := h (by omega); omega)
  exact ⟨e, by unfold lookP; rw [e]; rfl⟩
theorem atP_some (ps : List PackV) (i : Int) : (atP ps i).isSome = inP ps i := by
  cases h : inP ps i
  · rw [(atP_out h).1]; rfl
  · obtain ⟨_, e, _⟩ := atP_in h; rw [e]; rfl
theorem atP_ok {ps : List PackV} (h : ∀ q ∈ ps, GoodP q) (i : Int) : (lookP ps i).Ok := by
  cases e : inP ps i
  · rw [(atP_out e).2]; exact zero_ok
  · obtain ⟨hi, _, e2, _⟩ := atP_in e; rw [e2]; exact (h _ (List.getElem_mem hi)).1
theorem atS_map {l : List (ByteArray × Int)} {ps : List PackV} (h : expS l = ps.map encP) (i : Int) : atS l i = (atP ps i).map encP := by
  unfold atS atP
  split
  · rfl
  · rw [h, List.getElem?_map]
def sentB (p : PackV) (ps : List PackV) : Bool := packB p && decide (ps.length < 400)
def sendP (p : PackV) (ps : List PackV) : List PackV := if sentB p ps then insP p ps else ps
def takeP (ps : List PackV) (i : Int) : List PackV := if inP ps i then ps.eraseIdx i.toNat else ps
def twiceB (ps : List PackV) (i : Int) : Bool := inP ps i && decide (ps.length < 400)
def twiceP (ps : List PackV) (i : Int) : List PackV := if twiceB ps i then insP (lookP ps i) ps else ps
/-- A net's blocks: those of F. -/
structure NetR (w : World) (F : Nat → Prop) (nb b : Nat) (v : Value) (l : List (ByteArray × Int)) (ps : List PackV) : Prop where
  row : w.heap[nb]? = some (.cells #[.pointer (some ⟨b, 0, none⟩)] 74 (0, 0))
  bag : BagS w b 46 #[] v l
  good : GoodL l
  exp : expS l = ps.map encP
  gp : ∀ p ∈ ps, GoodP p
  le : ps.length ≤ 400
  nbb : nb ≠ b
  nv : v.ownBlock ≠ some nb
  fn : F nb
  fb : F b
  fv : ∀ k, v.ownBlock = some k → F k
  lt : ∀ k, F k → k < w.heap.size
def NetW (w : World) (F : Nat → Prop) (nb : Nat) (ps : List PackV) : Prop := ∃ b v l, NetR w F nb b v l ps
theorem NetR.keep {w w' : World} {F G : Nat → Prop} {nb b : Nat} {v : Value} {l : List (ByteArray × Int)} {ps : List PackV} (h : NetR w F nb b v l ps) (hk : Keep G w w') (hg : ∀ k, F k → ¬ G k) : NetR w' F nb b v l ps :=
  ⟨by rw [hk.block nb (lt_of_heap h.row) (hg nb h.fn)]; exact h.row, h.bag.keep hk (hg b h.fb) (fun k hk => hg k (h.fv k hk)), h.good, h.exp, h.gp, h.le, h.nbb, h.nv, h.fn, h.fb, h.fv, fun k hF => Nat.lt_of_lt_of_le (h.lt k hF) hk.size⟩
theorem NetW.keep {w w' : World} {F G : Nat → Prop} {nb : Nat} {ps : List PackV} (h : NetW w F nb ps) (hk : Keep G w w') (hg : ∀ k, F k → ¬ G k) : NetW w' F nb ps := by
  obtain ⟨b, v, l, h⟩ := h
  exact ⟨b, v, l, h.keep hk hg⟩
theorem NetW.good {w : World} {F : Nat → Prop} {nb : Nat} {ps : List PackV} (h : NetW w F nb ps) : (∀ p ∈ ps, GoodP p) ∧ ps.length ≤ 400 := by
  obtain ⟨b, v, l, h⟩ := h
  exact ⟨h.gp, h.le⟩
theorem NetR.bounds {w : World} {F : Nat → Prop} {nb b : Nat} {v : Value} {l : List (ByteArray × Int)} {ps : List PackV} (h : NetR w F nb b v l ps) :
    l.length ≤ 1000000 ∧ (∀ p ∈ l, 0 ≤ p.2 ∧ p.2 ≤ 1000000) ∧ sumS l = ps.length := by
  obtain ⟨h1, h2, h3⟩ := exp_len l h.good.cnt
  have e : (expS l).length = ps.length := by rw [h.exp, List.length_map]
  rw [e] at h1 h2 h3
  have := h.le
  exact ⟨by omega, fun p hp => ⟨by have := h.good.cnt p hp; omega, by have := h3 p hp; omega⟩, h1.symm⟩
theorem NetR.mono_F {w : World} {F G : Nat → Prop} {nb b : Nat} {v : Value} {l : List (ByteArray × Int)} {ps : List PackV} (h : NetR w F nb b v l ps) (hg : ∀ k, F k → G k) (hl : ∀ k, G k → k < w.heap.size) : NetR w G nb b v l ps :=
  ⟨h.row, h.bag, h.good, h.exp, h.gp, h.le, h.nbb, h.nv, hg _ h.fn, hg _ h.fb, fun k hk => hg k (h.fv k hk), hl⟩
/-- F, and what is new. -/
def Wid (F : Nat → Prop) (w w' : World) (k : Nat) : Prop := F k ∨ (w.heap.size ≤ k ∧ k < w'.heap.size)
theorem NetR.wid {w0 w : World} {F : Nat → Prop} {nb b : Nat} {v : Value} {l : List (ByteArray × Int)} {ps : List PackV} (h : NetR w F nb b v l ps) : NetR w (Wid F w0 w) nb b v l ps :=
  ⟨h.row, h.bag, h.good, h.exp, h.gp, h.le, h.nbb, h.nv, .inl h.fn, .inl h.fb, fun k hk => .inl (h.fv k hk), fun k hk => hk.elim (h.lt k) (fun e => e.2)⟩
theorem NetW.wid {w0 w : World} {F : Nat → Prop} {nb : Nat} {ps : List PackV} (h : NetW w F nb ps) : NetW w (Wid F w0 w) nb ps := by
  obtain ⟨b, v, l, h⟩ := h
  exact ⟨b, v, l, h.wid⟩
/-- Behind an Add. -/
theorem NetR.add {w w' : World} {F : Nat → Prop} {nb b : Nat} {v v' : Value} {l l' : List (ByteArray × Int)} {ps ps' : List PackV} (h : NetR w F nb b v l ps)
    (hb : BagS w' b 46 #[] v' l') (hk : Keep (fun k => k = b ∨ v.ownBlock = some k) w w') (hf : ∀ k, v'.ownBlock = some k → v.ownBlock = some k ∨ w.heap.size ≤ k)
    (hg : GoodL l') (he : expS l' = ps'.map encP) (hp : ∀ p ∈ ps', GoodP p) (hl : ps'.length ≤ 400) : NetR w' (Wid F w w') nb b v' l' ps' ∧ Keep F w w' := by
  have hn : ¬ (nb = b ∨ v.ownBlock = some nb) := fun e => e.elim h.nbb h.nv
  refine ⟨⟨by rw [hk.block nb (lt_of_heap h.row) hn]; exact h.row, hb, hg, he, hp, hl, h.nbb, fun e => ?_, .inl h.fn, .inl h.fb, fun k hk2 => ?_, fun k hF => ?_⟩, hk.mono fun i hi e => ?_⟩
  · rcases hf nb e with e | e
    · exact h.nv e
    · have := lt_of_heap h.row; omega
  · rcases hf k hk2 with e | e
    · exact .inl (h.fv k e)
    · exact .inr ⟨e, (World.ownsRow.lt hb.own k hk2).2⟩
  · rcases hF with e | e
    · exact Nat.lt_of_lt_of_le (h.lt k e) hk.size
    · exact e.2
  · rcases e with rfl | e
    · exact h.fb
    · exact h.fv i e
end Go.Proofs.YtlabhbjampkhpaaGreat
