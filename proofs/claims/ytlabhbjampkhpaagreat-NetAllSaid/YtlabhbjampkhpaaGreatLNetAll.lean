/- NetAll: the law returns true and changes nothing that was there. No conditions. -/
import Derived.Test.YtlabhbjampkhpaaGreatWith15
import Derived.Deep.CutRange
import Derived.Deep.CutBlock
import Derived.Test.YtlabhbjampkhpaaGreatRows
import Derived.WalkKit
import Derived.ProofKit
import Derived.OpenShut
import Derived.ShutString
import Derived.ChangeOld
import Derived.Below
namespace Go.Proofs.YtlabhbjampkhpaaGreat.netAll
open Go Go.ChangeShapes Go.WideShapes Go.ChangeAt Go.RowKit
open Go.ChangeMaps (open_string shut_string)

theorem own : ownKnob Tryz.prog.godebug = none := by kernel_rfl
theorem laidOut : laidOutB Tryz.prog = true := by kernel_rfl

open Go.Proofs Go.RowKit
set_option maxRecDepth 40000 in
theorem open_arg0 {H : Type} {enc : TypeId × Value → H} {a : Option Addr} {len cap : Nat} {d : DataW H} {p : List MemPlace} (W : World) (_base : Nat)
    (h : DataW.Trod enc Tryz.prog W 0 (fun _ => true) true 35 (.slice a len cap) d p) : ∃ z, IsOpsN W a len cap z := open_opsN h
/-- A net that holds qs, and the law's own row, that holds ps; both made behind w; the blocks of G stand beside them. -/
def St (G : Nat → Prop) (w wr : World) (nb : Nat) (qs ps : List PackV) (v : Value) : Prop := ∃ F n ao cp, v = .slice ao n cp ∧ ps.length = n ∧ NetW wr F nb qs ∧ (∀ k, F k → w.heap.size ≤ k ∧ ¬ G k) ∧ Keep NoF w wr ∧ wr.ownsRow 0 23 6 (.slice ao n cp) n (ps.flatMap pkL) ∧ (∀ g, (Value.slice ao n cp).ownBlock = some g → w.heap.size ≤ g ∧ ¬ F g ∧ ¬ G g) ∧ ∀ k, G k → w.heap.size ≤ k ∧ k < wr.heap.size
theorem netW_lt {w : World} {F : Nat → Prop} {nb : Nat} {ps : List PackV} (h : NetW w F nb ps) : ∀ k, F k → k < w.heap.size := by
  obtain ⟨b, v, l, h⟩ := h
  exact h.lt
theorem St.keepG {G H : Nat → Prop} {w wr wc : World} {nb : Nat} {qs ps : List PackV} {v : Value} (h : St G w wr nb qs ps v) (hk : Keep H wr wc) (hH : ∀ k, H k → G k) : St G w wc nb qs ps v := by
  obtain ⟨F, n, ao, cp, e, hl, h1, h2, h3, h4, h5, h6⟩ := h
  exact ⟨F, n, ao, cp, e, hl, h1.keep hk (fun k hf hh => (h2 k hf).2 (hH k hh)), h2, h3.trans hk (fun _ _ f => f) (fun k hk f => by have := (h6 k (hH k f)).1; omega), row_keep h4 hk (fun g hg hh => (h5 g hg).2.2 (hH g hh)), h5, fun k hg => ⟨(h6 k hg).1, Nat.lt_of_lt_of_le (h6 k hg).2 hk.size⟩⟩
theorem St.keep {G : Nat → Prop} {w wr wc : World} {nb : Nat} {qs ps : List PackV} {v : Value} (h : St G w wr nb qs ps v) (hk : Keep NoF wr wc) : St G w wc nb qs ps v := h.keepG hk (fun _ f => f.elim)
theorem St.world {G : Nat → Prop} {w wr : World} {nb : Nat} {qs ps : List PackV} {v : Value} (h : St G w wr nb qs ps v) : Keep NoF w wr := by
  obtain ⟨F, n, ao, cp, e, hl, h1, h2, h3, h4, h5⟩ := h
  exact h3
theorem St.good {G : Nat → Prop} {w wr : World} {nb : Nat} {qs ps : List PackV} {v : Value} (h : St G w wr nb qs ps v) : ∀ p ∈ qs, GoodP p := by
  obtain ⟨F, n, ao, cp, e, hl, h1, h2, h3, h4, h5⟩ := h
  exact h1.good.1
theorem St.slice {G : Nat → Prop} {w wr : World} {nb : Nat} {qs ps : List PackV} {v : Value} (h : St G w wr nb qs ps v) : ∃ n ao cp, v = .slice ao n cp ∧ ps.length = n ∧ n ≤ cp ∧ (cp : Int) ≤ 9223372036854775807 ∧ SlK 6 pkL wr ao cp ps := by
  obtain ⟨F, n, ao, cp, e, hl, h1, h2, h3, h4, h5⟩ := h
  have hc := row_cap h4
  obtain ⟨hc1, hc2⟩ := hc
  unfold maxLen at hc2
  exact ⟨n, ao, cp, e, hl, hc1, by omega, rowK_sl pkL_len h4 hl⟩
/-- A block more beside them. -/
theorem St.add {G : Nat → Prop} {w wr wc : World} {nb : Nat} {qs ps : List PackV} {v : Value} (h : St G w wr nb qs ps v) (hk : Keep NoF wr wc) (D : Nat) (h0 : wr.heap.size ≤ D) (h1 : D < wc.heap.size) : St (fun k => G k ∨ k = D) w wc nb qs ps v := by
  obtain ⟨F, n, ao, cp, e, hl, h3, h4, h5, h6, h7, h8⟩ := h
  refine ⟨F, n, ao, cp, e, hl, h3.keep hk (fun _ _ f => f), fun k hf => ⟨(h4 k hf).1, ?_⟩, h5.trans' hk, row_keep h6 hk (fun _ _ f => f), fun g hg => ⟨(h7 g hg).1, (h7 g hg).2.1, ?_⟩, ?_⟩
  · rintro (f | rfl)
    · exact (h4 k hf).2 f
    · have := netW_lt h3 _ hf; omega
  · rintro (f | rfl)
    · exact (h7 g hg).2.2 f
    · have := row_lt h6 _ hg; omega
  · rintro k (f | rfl)
    · exact ⟨(h8 k f).1, Nat.lt_of_lt_of_le (h8 k f).2 hk.size⟩
    · exact ⟨Nat.le_trans h5.size h0, h1⟩
theorem St.less {G H : Nat → Prop} {w wr : World} {nb : Nat} {qs ps : List PackV} {v : Value} (h : St G w wr nb qs ps v) (hH : ∀ k, H k → G k) : St H w wr nb qs ps v := by
  obtain ⟨F, n, ao, cp, e, hl, h3, h4, h5, h6, h7, h8⟩ := h
  exact ⟨F, n, ao, cp, e, hl, h3, fun k hf => ⟨(h4 k hf).1, fun f => (h4 k hf).2 (hH k f)⟩, h5, h6, fun g hg => ⟨(h7 g hg).1, (h7 g hg).2.1, fun f => (h7 g hg).2.2 (hH g f)⟩, fun k hk => h8 k (hH k hk)⟩
/-- What is known behind a step of the net. -/
def StP (G : Nat → Prop) (w wr wc : World) (nb : Nat) (qs ps : List PackV) (v : Value) : Prop := St G w wc nb qs ps v ∧ ∀ k, G k → wc.heap[k]? = wr.heap[k]?
theorem St.op {G : Nat → Prop} {w wr wc : World} {nb : Nat} {qs rs ps : List PackV} {v : Value} {F : Nat → Prop} {n : Nat} {ao : Option Addr} {cp : Nat} (e : v = .slice ao n cp) (hl : ps.length = n) (_h1 : NetW wr F nb qs) (h2 : ∀ k, F k → w.heap.size ≤ k ∧ ¬ G k) (h3 : Keep NoF w wr) (h4 : wr.ownsRow 0 23 6 (.slice ao n cp) n (ps.flatMap pkL))
    (h5 : (∀ g, (Value.slice ao n cp).ownBlock = some g → w.heap.size ≤ g ∧ ¬ F g ∧ ¬ G g) ∧ ∀ k, G k → w.heap.size ≤ k ∧ k < wr.heap.size) (h6 : NetW wc (Wid F wr wc) nb rs) (h7 : Keep F wr wc) : StP G w wr wc nb rs ps v := by
  have hlt := row_lt h4
  refine ⟨⟨Wid F wr wc, n, ao, cp, e, hl, h6, fun k hk => ⟨hk.elim (fun f => (h2 k f).1) (fun e => Nat.le_trans h3.size e.1), ?_⟩, h3.trans h7 (fun _ _ f => f) (fun k hk f => by have := (h2 k f).1; omega), row_keep h4 h7 (fun g hg => (h5.1 g hg).2.1), fun g hg => ⟨(h5.1 g hg).1, ?_, (h5.1 g hg).2.2⟩, fun k hk => ⟨(h5.2 k hk).1, Nat.lt_of_lt_of_le (h5.2 k hk).2 h7.size⟩⟩, fun k hk => h7.block k (h5.2 k hk).2 (fun f => (h2 k f).2 hk)⟩
  · intro hg
    rcases hk with f | f
    · exact (h2 k f).2 hg
    · have := (h5.2 k hg).2; omega
  · rintro (f | f)
    · exact (h5.1 g hg).2.1 f
    · have := hlt g hg; omega
theorem st_send {G : Nat → Prop} {w wr : World} {nb : Nat} {qs ps : List PackV} {v : Value} (p : PackV) (h : St G w wr nb qs ps v) (hp : p.Ok) (hl : qs.length < 400) :
    Calls Tryz.prog 21 #[.pointer (some ⟨nb, 0, none⟩), packVal p] wr fun e w' => e = .returned (.bool (packB p)) ∧ StP G w wr w' nb (if packB p then insP p qs else qs) ps v := by
  obtain ⟨F, n, ao, cp, e, hl2, h1, h2, h3, h4, h5⟩ := h
  refine (send_any F nb p qs wr h1 hp).mono ?_
  rintro e' w' ⟨rfl, h6, h7⟩
  have hs : sentB p qs = packB p := by unfold sentB; simp [hl]
  have hs2 : sendP p qs = if packB p then insP p qs else qs := by unfold sendP; rw [hs]
  rw [hs2] at h6
  exact ⟨by rw [hs], St.op e hl2 h1 h2 h3 h4 h5 h6 h7⟩
theorem st_twice {G : Nat → Prop} {w wr : World} {nb : Nat} {qs ps : List PackV} {v : Value} (i : Int) (h : St G w wr nb qs ps v) (hi : -9223372036854775808 ≤ i ∧ i ≤ 9223372036854775807) (hl : qs.length < 400) :
    Calls Tryz.prog 23 #[.pointer (some ⟨nb, 0, none⟩), .int .i64 i] wr fun e w' => e = .returned (.bool (inP qs i)) ∧ StP G w wr w' nb (if inP qs i then insP (lookP qs i) qs else qs) ps v := by
  obtain ⟨F, n, ao, cp, e, hl2, h1, h2, h3, h4, h5⟩ := h
  refine (twice_any F nb qs i wr h1 hi).mono ?_
  rintro e' w' ⟨rfl, h6, h7⟩
  have hs : twiceB qs i = inP qs i := by unfold twiceB; simp [hl]
  have hs2 : twiceP qs i = if inP qs i then insP (lookP qs i) qs else qs := by unfold twiceP; rw [hs]
  rw [hs2] at h6
  exact ⟨by rw [hs], St.op e hl2 h1 h2 h3 h4 h5 h6 h7⟩
theorem st_take {G : Nat → Prop} {w wr : World} {nb : Nat} {qs ps : List PackV} {v : Value} (i : Int) (h : St G w wr nb qs ps v) (hi : -9223372036854775808 ≤ i ∧ i ≤ 9223372036854775807) :
    Calls Tryz.prog 25 #[.pointer (some ⟨nb, 0, none⟩), .int .i64 i] wr fun e w' => e = .returned (.tuple #[packVal (lookP qs i), .bool (inP qs i)]) ∧ StP G w wr w' nb (takeP qs i) ps v := by
  obtain ⟨F, n, ao, cp, e, hl2, h1, h2, h3, h4, h5⟩ := h
  refine (take_any F nb qs i wr h1 hi).mono ?_
  rintro e' w' ⟨rfl, h6, h7⟩
  exact ⟨rfl, St.op e hl2 h1 h2 h3 h4 h5 h6 h7⟩
theorem st_look {G : Nat → Prop} {w wr : World} {nb : Nat} {qs ps : List PackV} {v : Value} (i : Int) (h : St G w wr nb qs ps v) (hi : -9223372036854775808 ≤ i ∧ i ≤ 9223372036854775807) :
    Calls Tryz.prog 24 #[.pointer (some ⟨nb, 0, none⟩), .int .i64 i] wr fun e w' => e = .returned (.tuple #[packVal (lookP qs i), .bool (inP qs i)]) ∧ Keep NoF wr w' := by
  obtain ⟨F, n, ao, cp, e, hl2, h1, h2, h3, h4, h5⟩ := h
  exact look_any F nb qs i wr h1 hi
theorem st_len {G : Nat → Prop} {w wr : World} {nb : Nat} {qs ps : List PackV} {v : Value} (h : St G w wr nb qs ps v) :
    Calls Tryz.prog 26 #[.pointer (some ⟨nb, 0, none⟩)] wr fun e w' => e = .returned (.int .i64 (qs.length : Nat)) ∧ w' = wr := by
  obtain ⟨F, n, ao, cp, e, hl2, h1, h2, h3, h4, h5⟩ := h
  exact netlen_any F nb qs wr h1
theorem St.row {G : Nat → Prop} {w wr wc : World} {nb : Nat} {qs ps rs : List PackV} {v : Value} {n cp : Nat} {ao : Option Addr} (h : St G w wr nb qs ps v) (hk : Keep NoF wr wc) (hr : wc.ownsRow 0 23 6 (.slice ao n cp) n (rs.flatMap pkL)) (hl : rs.length = n) (hf : ∀ g, (Value.slice ao n cp).ownBlock = some g → wr.heap.size ≤ g) : St G w wc nb qs rs (.slice ao n cp) := by
  obtain ⟨F, n', ao', cp', e, hl2, h1, h2, h3, h4, h5, h6⟩ := h
  exact ⟨F, n, ao, cp, rfl, hl, h1.keep hk (fun _ _ f => f), h2, h3.trans' hk, hr, fun g hg => ⟨Nat.le_trans h3.size (hf g hg), fun f => by have := netW_lt h1 g f; have := hf g hg; omega, fun f => by have := (h6 g f).2; have := hf g hg; omega⟩, fun k hk2 => ⟨(h6 k hk2).1, Nat.lt_of_lt_of_le (h6 k hk2).2 hk.size⟩⟩
theorem st_with {G : Nat → Prop} {w wr : World} {nb : Nat} {qs ps : List PackV} {v : Value} (p : PackV) (h : St G w wr nb qs ps v) (hl : ps.length ≤ 400) :
    Calls Tryz.prog 22 #[v, packVal p] wr fun e w' => ∃ v', e = .returned v' ∧ St G w w' nb qs (insP p ps) v' := by
  have h' := h
  obtain ⟨F, n, ao, cp, rfl, hl2, h1, h2, h3, h4, h5⟩ := h'
  refine (with_any ao n cp ps p wr h4 hl2 (by omega)).mono ?_
  rintro e' w' ⟨ao2, cp2, rfl, h6, h7, h8⟩
  exact ⟨_, rfl, h.row h8 h6 (by rw [insP_length, hl2]) h7⟩
theorem st_new {w wr : World} (hk : Keep NoF w wr) : Calls Tryz.prog 20 #[] wr fun e w' => ∃ nb, e = .returned (.pointer (some ⟨nb, 0, none⟩)) ∧ St NoF w w' nb [] [] (.slice none 0 0) := by
  refine (ns_new w wr hk).mono ?_
  rintro e w' ⟨nb, rfl, F, h1, h2, h3⟩
  exact ⟨nb, rfl, F, 0, none, 0, rfl, rfl, h1, fun k hk => ⟨h2 k hk, fun f => f⟩, h3, World.ownsRow_nil _ _ _ _, nofun, fun _ f => f.elim⟩
theorem src_row {G : Nat → Prop} {w wr : World} {nb : Nat} {qs ps : List PackV} {n cp : Nat} {ao : Option Addr} (h : St G w wr nb qs ps (.slice ao n cp)) (hl : ps.length = n) (k : Nat) (hk : k ≤ n) :
    (∀ W, Keep NoF wr W → Src Tryz.prog 6 38 (.slice ao k cp) k ((ps.take k).flatMap pkL) W) ∧ ∀ W, Keep NoF wr W → Src Tryz.prog 6 38 (.slice (fromA ao k cp 6) (n - k) (cp - k)) (n - k) ((ps.drop k).flatMap pkL) W := by
  obtain ⟨F, n', ao', cp', e, hl2, h1, h2, h3, h4, h5, h6⟩ := h
  injection e with e1 e2 e3
  subst e1 e2 e3
  exact ⟨fun W hW => src_upto pkL_len pkL_one Tryz.underlying38 (row_keep h4 hW (fun _ _ f => f)) hl k hk cp, fun W hW => src_from pkL_len pkL_one Tryz.underlying38 (row_keep h4 hW (fun _ _ f => f)) hl k hk (cp - k)⟩
theorem st_cell {G : Nat → Prop} {w wr : World} {nb : Nat} {qs ps : List PackV} {n cp : Nat} {ao : Option Addr} (h : St G w wr nb qs ps (.slice ao n cp)) (m : Nat) (hm : m < ps.length) : ∃ g off, ao = some ⟨g, off, none⟩ ∧ PkAt wr g (off + m * 6) ps[m] := by
  obtain ⟨F, n', ao', cp', e, hl2, h1, h2, h3, h4, h5, h6⟩ := h
  injection e with e1 e2 e3
  subst e1 e2 e3
  exact sl6 (rowK_sl pkL_len h4 hl2) m hm
theorem inP_nat {ps : List PackV} {x : Int} (h : inP ps x = true) : ∃ m : Nat, x = m ∧ ∃ hm : m < ps.length, lookP ps m = ps[m] := by
  obtain ⟨hi, _, h1, h2⟩ := atP_in h
  have e : x = (x.toNat : Int) := by omega
  refine ⟨x.toNat, e, hi, ?_⟩
  rw [← e]; exact h1
theorem set6 {w : World} {g : Nat} {T : TypeId} {a0 a1 a2 a3 a4 a5 b0 b1 b2 b3 b4 b5 : Value} (h : w.heap[g]? = some (.cells #[b0, b1, b2, b3, b4, b5] T (0, 0))) :
    Keep (fun k => k = g) w ((((((w.setCell ⟨g, 0, none⟩ a0).setCell ⟨g, 1, none⟩ a1).setCell ⟨g, 2, none⟩ a2).setCell ⟨g, 3, none⟩ a3).setCell ⟨g, 4, none⟩ a4).setCell ⟨g, 5, none⟩ a5) ∧
    ((((((w.setCell ⟨g, 0, none⟩ a0).setCell ⟨g, 1, none⟩ a1).setCell ⟨g, 2, none⟩ a2).setCell ⟨g, 3, none⟩ a3).setCell ⟨g, 4, none⟩ a4).setCell ⟨g, 5, none⟩ a5).heap[g]? = some (.cells #[a0, a1, a2, a3, a4, a5] T (0, 0)) := by
  have r0 := Keep.refl (fun k => k = g) w
  have r1 := r0.setCell (p := ⟨g, 0, none⟩) (fun _ => rfl) a0
  have r2 := r1.setCell (p := ⟨g, 1, none⟩) (fun _ => rfl) a1
  have r3 := r2.setCell (p := ⟨g, 2, none⟩) (fun _ => rfl) a2
  have r4 := r3.setCell (p := ⟨g, 3, none⟩) (fun _ => rfl) a3
  have r5 := r4.setCell (p := ⟨g, 4, none⟩) (fun _ => rfl) a4
  refine ⟨r5.setCell (p := ⟨g, 5, none⟩) (fun _ => rfl) a5, ?_⟩
  simp [World.setCell, Array.getElem?_modify, h]
theorem sl8 {w : World} {ao : Option Addr} {cp : Nat} {l : List OpN} (h : SlK 8 opC w ao cp l) (i : Nat) (hi : i < l.length) : ∃ g off, ao = some ⟨g, off, none⟩ ∧ w.cell? ⟨g, off + i * 8, none⟩ = some (.int .i64 l[i].kind) ∧ w.cell? ⟨g, off + i * 8 + 1, none⟩ = some (.int .i64 l[i].i) ∧
    w.cell? ⟨g, off + i * 8 + 2, none⟩ = some (.int .i64 l[i].p.kind) ∧ w.cell? ⟨g, off + i * 8 + 3, none⟩ = some (.int .i64 l[i].p.from_) ∧ w.cell? ⟨g, off + i * 8 + 4, none⟩ = some (.int .i64 l[i].p.to) ∧ w.cell? ⟨g, off + i * 8 + 5, none⟩ = some (.int .i64 l[i].p.tid) ∧ w.cell? ⟨g, off + i * 8 + 6, none⟩ = some (.int .i64 l[i].p.n) ∧ w.cell? ⟨g, off + i * 8 + 7, none⟩ = some (.bool l[i].p.yes) := by
  obtain ⟨g, off, e, hc⟩ := h.2.2 i hi
  exact ⟨g, off, e, by simpa using hc 0 _ rfl, hc 1 _ rfl, hc 2 _ rfl, hc 3 _ rfl, hc 4 _ rfl, hc 5 _ rfl, hc 6 _ rfl, hc 7 _ rfl⟩
/-- What a step makes of the packets that are on their way. -/
def stepN (o : OpN) (ps : List PackV) : List PackV :=
  if o.kind = 0 then (if packB o.p then insP o.p ps else ps) else if o.kind = 3 then (if inP ps o.i then insP (lookP ps o.i) ps else ps) else if o.kind = 1 then takeP ps o.i else ps
theorem stepN_length (o : OpN) (ps : List PackV) : (stepN o ps).length ≤ ps.length + 1 := by
  unfold stepN
  split
  · split
    · rw [insP_length]; omega
    · omega
  · split
    · split
      · rw [insP_length]; omega
      · omega
    · split
      · unfold takeP
        split
        · have := List.length_eraseIdx_le ps o.i.toNat; omega
        · omega
      · omega
theorem wp_phi {P : Program} {c : Code} {Q : Exit → Act → World → Prop} {a : Act} {φ : World → Prop} {W : World} (hW : φ W) (h : ∀ W', φ W' → Code.wp P c Q a W') : Code.wp P c Q a W := h W hW
theorem wp_named {P : Program} {c : Code} {Q : Exit → Act → World → Prop} {a : Act} {wq W : World} (hW : Keep NoF wq W) (h : ∀ W', Keep NoF wq W' → Code.wp P c Q a W') : Code.wp P c Q a W := h W hW
set_option maxHeartbeats 16000000 in
set_option maxRecDepth 8000 in
theorem walk (w : World) (a0 : Option Addr) (len0 cap0 : Nat) (z0 : List OpN) (h0 : IsOpsN w a0 len0 cap0 z0) :
    Calls Tryz.prog 5 #[.slice a0 len0 cap0] w fun e w' => e = .returned (.bool true) ∧ Keep NoF w w' := by
  obtain ⟨hl0, hok, s0⟩ := h0
  have c0 := s0.1; have c0m := s0.2.1
  rw [hl0] at c0
  unfold maxLen at c0m
  have S0 := Lib.hid s0; have HL0 := Lib.hid hl0; have HOK := Lib.hid hok
  clear s0 hl0 hok
  go_enter Tryz.func5, Tryz.ntmps5
  go_wp2_with fail
  refine (begun15_any w).mono ?_
  rintro e w1 ⟨rfl, hk⟩
  have K1 := Lib.hid hk; clear hk
  go_wp2_with fail
  refine (st_new K1.out).mono ?_
  rintro e w2 ⟨nb, rfl, hS⟩
  have HS := Lib.hid hS
  clear hS
  go_wp2_with fail
  go_loopw [5, 6] (fun lv iv wr => ∃ (i : Nat) (ps : List PackV), i ≤ len0 ∧ i ≤ 50 ∧ ps.length ≤ i ∧ iv = .int .i64 i ∧ St NoF w wr nb ps ps lv) (fun _ iv _ => len0 - (intOf iv).toNat)
  case atStart => exact ⟨0, [], Nat.zero_le _, Nat.zero_le _, Nat.le_refl _, rfl, HS.out⟩
  case round =>
    obtain ⟨i, ps, hi, hi50, hpi, rfl, hS⟩ := hrel
    obtain ⟨n0, ao, cp, rfl, hn0, hcp, hcpm, _⟩ := hS.slice
    have HSi := Lib.hid hS; have HN0 := Lib.hid hn0
    clear hS
    by_cases hlt : i < len0 ∧ i < 50
    · obtain ⟨hlt, hlt50⟩ := hlt
      have hlt2 : (i : Int) < len0 := by omega
      have hlt3 : (i : Int) < 50 := by omega
      have hd2 : decide ((i : Int) < len0) = true := by simp [hlt2]
      have hd3 : decide ((i : Int) < 50) = true := by simp [hlt3]
      obtain ⟨g0, o0, rfl, b0, b1, b2, b3, b4, b5, b6, b7⟩ := sl8 (S0.out.keep HSi.out.world (fun _ _ f => f)) i (by rw [HL0.out]; exact hlt)
      have hPok := HOK.out _ (List.getElem_mem (by rw [HL0.out]; exact hlt : i < z0.length))
      generalize z0[i]'(by rw [HL0.out]; exact hlt) = O at b0 b1 b2 b3 b4 b5 b6 b7 hPok
      obtain ⟨kd, x, P⟩ := O
      obtain ⟨k, f, t, d, n, y⟩ := P
      dsimp only at b0 b1 b2 b3 b4 b5 b6 b7
      obtain ⟨bk, bx, hPok⟩ := hPok
      dsimp only at bk bx hPok
      unfold In64 at bk bx
      have HPOK := Lib.hid hPok
      clear hPok
      obtain ⟨D, hhD⟩ : ∃ D, wr.heap.size = D := ⟨_, rfl⟩
      go_upto_region 10 with fail
      have hrD := heap_new wr (.cells #[.int .i64 kd, .int .i64 x, .int .i64 k, .int .i64 f, .int .i64 t, .int .i64 d, .int .i64 n, .bool y] 40 (0, 0))
      have hkD := keep_alloc wr (.cells #[.int .i64 kd, .int .i64 x, .int .i64 k, .int .i64 f, .int .i64 t, .int .i64 d, .int .i64 n, .bool y] 40 (0, 0))
      have hsD : (wr.alloc (.cells #[.int .i64 kd, .int .i64 x, .int .i64 k, .int .i64 f, .int .i64 t, .int .i64 d, .int .i64 n, .bool y] 40 (0, 0))).heap.size = wr.heap.size + 1 := size_alloc _ _
      show Code.wp _ _ _ _ (wr.alloc (.cells #[.int .i64 kd, .int .i64 x, .int .i64 k, .int .i64 f, .int .i64 t, .int .i64 d, .int .i64 n, .bool y] 40 (0, 0)))
      rw [hhD] at hrD hsD
      generalize wr.alloc (.cells #[.int .i64 kd, .int .i64 x, .int .i64 k, .int .i64 f, .int .i64 t, .int .i64 d, .int .i64 n, .bool y] 40 (0, 0)) = W1 at hrD hkD hsD ⊢
      (try rw [hhD])
      have HCD : Hid (∀ W : World, W.heap[D]? = W1.heap[D]? → W.cell? ⟨D, 0, none⟩ = some (.int .i64 kd) ∧ W.cell? ⟨D, 1, none⟩ = some (.int .i64 x) ∧ W.cell? ⟨D, 2, none⟩ = some (.int .i64 k) ∧ W.cell? ⟨D, 3, none⟩ = some (.int .i64 f) ∧ W.cell? ⟨D, 4, none⟩ = some (.int .i64 t) ∧ W.cell? ⟨D, 5, none⟩ = some (.int .i64 d) ∧ W.cell? ⟨D, 6, none⟩ = some (.int .i64 n) ∧ W.cell? ⟨D, 7, none⟩ = some (.bool y)) := Lib.hid fun W hW => by
        have e := hW.trans hrD
        refine ⟨?_, ?_, ?_, ?_, ?_, ?_, ?_, ?_⟩
        all_goals (rw [cell_of_heap e]; rfl)
      have HKD := Lib.hid hkD; have HRD := Lib.hid hrD; have HLD : Hid (wr.heap.size ≤ D ∧ D < W1.heap.size) := Lib.hid ⟨by omega, by omega⟩
      clear hrD hkD hsD hhD
      clear b0 b1 b2 b3 b4 b5 b6 b7 hd2 hd3
      have hn50 : n0 ≤ 50 := by omega
      go_cut [8] from 32 to 41 (fun v wx => v = .bool (inP ps x) ∧ wx = W1)
      case first =>
        obtain ⟨b0, b1, b2, b3, b4, b5, b6, b7⟩ := HCD.out W1 rfl
        have hin : inP ps x = (decide (0 ≤ x) && decide (x < n0)) := by unfold inP; rw [HN0.out]
        by_cases hx0 : 0 ≤ x
        · have hx0d : decide (0 ≤ x) = true := decide_eq_true hx0
          by_cases hx1 : x < n0
          · have hx1d : decide (x < (n0 : Int)) = true := decide_eq_true hx1
            have HIN : Hid (inP ps x = true) := Lib.hid (by rw [hin, hx0d, hx1d]; rfl)
            clear hin
            go_wp2_with fail
            go_meet
            exact ⟨by rw [HIN.out], rfl⟩
          · have hx1d : decide (x < (n0 : Int)) = false := decide_eq_false hx1
            have HIN : Hid (inP ps x = false) := Lib.hid (by rw [hin, hx0d, hx1d]; rfl)
            clear hin
            go_wp2_with fail
            go_meet
            exact ⟨by rw [HIN.out], rfl⟩
        · have hx0d : decide (0 ≤ x) = false := decide_eq_false hx0
          have HIN : Hid (inP ps x = false) := Lib.hid (by rw [hin, hx0d]; rfl)
          clear hin
          go_wp2_with fail
          go_meet
          exact ⟨by rw [HIN.out], rfl⟩
      case rest =>
        obtain ⟨rfl, hw⟩ := hcut
        obtain rfl : W1 = wc := hw.symm
        have HSG := Lib.hid (HSi.out.add HKD.out D HLD.out.1 HLD.out.2)
        have HPL : Hid (ps.length ≤ 49) := Lib.hid (by have := HN0.out; omega)
        obtain ⟨b0, b1, b2, b3, b4, b5, b6, b7⟩ := HCD.out W1 rfl
        go_upto_block 2 with fail
        obtain ⟨bl, hbl⟩ : ∃ b, inP ps x = b := ⟨_, rfl⟩
        rw [hbl]
        have HBL := Lib.hid hbl
        clear hbl
        go_cut [5, 9, 10] from 42 to 134 (fun v _ _ wx => St NoF w wx nb (stepN ⟨kd, x, ⟨k, f, t, d, n, y⟩⟩ ps) (stepN ⟨kd, x, ⟨k, f, t, d, n, y⟩⟩ ps) v)
        case first =>
          by_cases hk0 : kd = 0
          · subst hk0
            have hrp := fun W => rpacket_any ⟨k, f, t, d, n, y⟩ W HPOK.out
            have hsd := fun W (hW : Keep NoF W1 W) => st_send ⟨k, f, t, d, n, y⟩ (HSG.out.keep hW) HPOK.out (by have := HPL.out; omega)
            have hst : stepN ⟨0, x, ⟨k, f, t, d, n, y⟩⟩ ps = if packB ⟨k, f, t, d, n, y⟩ then insP ⟨k, f, t, d, n, y⟩ ps else ps := by unfold stepN; rfl
            have hwt := fun W qs v (hW : St (fun k => NoF k ∨ k = D) w W nb qs ps v) => st_with ⟨k, f, t, d, n, y⟩ hW (by have := HPL.out; omega)
            generalize packB ⟨k, f, t, d, n, y⟩ = pb at hrp hsd hst
            unfold packVal at hrp hsd hwt
            dsimp only at hrp hsd hwt
            have HRP := Lib.hid hrp; have HSD := Lib.hid hsd; have HSTE := Lib.hid hst; have HWT := Lib.hid hwt
            clear hrp hsd hst hwt
            cases pb
            · go_wp2_with fail
              refine wp_region_noPanic ?_
              refine wp_region_held_drew (S := (fun W' : World => W'.cell? ⟨D, 0, none⟩ = some (.int .i64 0) ∧ W'.cell? ⟨D, 1, none⟩ = some (.int .i64 x) ∧ W'.cell? ⟨D, 2, none⟩ = some (.int .i64 k) ∧ W'.cell? ⟨D, 3, none⟩ = some (.int .i64 f) ∧ W'.cell? ⟨D, 4, none⟩ = some (.int .i64 t) ∧ W'.cell? ⟨D, 5, none⟩ = some (.int .i64 d) ∧ W'.cell? ⟨D, 6, none⟩ = some (.int .i64 n) ∧ W'.cell? ⟨D, 7, none⟩ = some (.bool y))) (by kernel_rfl) (HCD.out _ rfl) (fun hHeld => ?_)
              refine wpAnyH_take (i := 0) (oi := ?oF0) (v := ?vF0) ?hiF0 (by kernel_rfl) (by kernel_rfl) (by kernel_rfl) (fun _ _ _ h => h) (Or.inl ⟨?wF0, ?yF0⟩) (by assumption) ?rF0
              case hiF0 => (simp only [List.getElem?_toArray, List.getElem?_cons_zero]; try rfl)
              case wF0 => rfl
              case yF0 => (intro w hSw; (try dsimp only at hSw); go_simp; (try with_reducible rfl))
              (try simp only [Act.put, List.setIfInBounds_toArray, List.set_cons_zero, List.set_cons_succ])
              refine wpAnyH_take (i := 1) (oi := ?oF1) (v := ?vF1) ?hiF1 (by kernel_rfl) (by kernel_rfl) (by kernel_rfl) (fun _ _ _ h => h) (Or.inl ⟨?wF1, ?yF1⟩) (by assumption) ?rF1
              case hiF1 => (simp only [List.getElem?_toArray, List.getElem?_cons_succ, List.getElem?_cons_zero]; try rfl)
              case wF1 => rfl
              case yF1 => (intro w hSw; (try dsimp only at hSw); go_simp; (try with_reducible rfl))
              (try simp only [Act.put, List.setIfInBounds_toArray, List.set_cons_zero, List.set_cons_succ])
              refine wpAnyH_take (i := 2) (oi := ?oF2) (v := ?vF2) ?hiF2 (by kernel_rfl) (by kernel_rfl) (by kernel_rfl) (fun _ _ _ h => h) (Or.inl ⟨?wF2, ?yF2⟩) (by assumption) ?rF2
              case hiF2 => (simp only [List.getElem?_toArray, List.getElem?_cons_succ, List.getElem?_cons_zero]; try rfl)
              case wF2 => rfl
              case yF2 => (intro w hSw; (try dsimp only at hSw); go_simp; (try with_reducible rfl))
              (try simp only [Act.put, List.setIfInBounds_toArray, List.set_cons_zero, List.set_cons_succ])
              refine wpAnyH_take (i := 4) (oi := ?oF4) (v := ?vF4) ?hiF4 (by kernel_rfl) (by kernel_rfl) (by kernel_rfl) (fun _ _ _ h => h) (Or.inl ⟨?wF4, ?yF4⟩) (by assumption) ?rF4
              case hiF4 => (simp only [List.getElem?_toArray, List.getElem?_cons_succ, List.getElem?_cons_zero]; try rfl)
              case wF4 => rfl
              case yF4 => (intro w hSw; (try dsimp only at hSw); go_simp; (try with_reducible rfl))
              (try simp only [Act.put, List.setIfInBounds_toArray, List.set_cons_zero, List.set_cons_succ])
              refine wpAnyH_take (i := 5) (oi := ?oF5) (v := ?vF5) ?hiF5 (by kernel_rfl) (by kernel_rfl) (by kernel_rfl) (fun _ _ _ h => h) (Or.inl ⟨?wF5, ?yF5⟩) (by assumption) ?rF5
              case hiF5 => (simp only [List.getElem?_toArray, List.getElem?_cons_succ, List.getElem?_cons_zero]; try rfl)
              case wF5 => rfl
              case yF5 => (intro w hSw; (try dsimp only at hSw); go_simp; (try with_reducible rfl))
              (try simp only [Act.put, List.setIfInBounds_toArray, List.set_cons_zero, List.set_cons_succ])
              refine wpAnyH_ready (rs := [3]) (by kernel_rfl) (by simp) ?_
              refine AllReadyH.cons (o := ?oF3) ?hiF3 (fun K hK => ?_) AllReadyH.nil
              case hiF3 => (simp only [List.getElem?_toArray, List.getElem?_cons_succ, List.getElem?_cons_zero]; try rfl)
              go_simp
              (go_at_call 21; refine (HSD.out _ (Keep.refl NoF W1).drew).mono ?_; rintro e wA ⟨rfl, hSA⟩; have HSA := Lib.hid hSA; have HDA : Hid (wA.heap[D]? = W1.heap[D]?) := Lib.hid (hSA.2 D (.inr rfl)); clear hSA)
              go_wp2_with fail
              refine hK.out _ _ (HCD.out _ HDA.out) (fun hHeld => ?_)
              clear hK K
              (try simp only [Act.put, List.setIfInBounds_toArray, List.set_cons_zero, List.set_cons_succ])
              refine wpAnyH_ready (rs := [6]) (by kernel_rfl) (by simp) ?_
              refine AllReadyH.cons (o := ?oF6) ?hiF6 (fun K hK => ?_) AllReadyH.nil
              case hiF6 => (simp only [List.getElem?_toArray, List.getElem?_cons_succ, List.getElem?_cons_zero]; try rfl)
              go_simp
              (go_at_call 16; refine (HRP.out _).mono ?_; rintro e wB ⟨rfl, hkB⟩; have HSB := Lib.hid (HSA.out.1.keep hkB); have HDB : Hid (wB.heap[D]? = W1.heap[D]?) := Lib.hid ((hkB.block D (lt_of_heap (HDA.out.trans HRD.out)) (fun f => f)).trans HDA.out); clear hkB)
              go_wp2_with fail
              refine hK.out _ _ (HCD.out _ HDB.out) (fun hHeld => ?_)
              clear hK K
              (try simp only [Act.put, List.setIfInBounds_toArray, List.set_cons_zero, List.set_cons_succ])
              refine wpAnyH_take (i := 7) (oi := ?oF7) (v := ?vF7) ?hiF7 (by kernel_rfl) (by kernel_rfl) (by kernel_rfl) (fun _ _ _ h => h) (Or.inl ⟨?wF7, ?yF7⟩) (by assumption) ?rF7
              case hiF7 => (simp only [List.getElem?_toArray, List.getElem?_cons_succ, List.getElem?_cons_zero]; try rfl)
              case wF7 => rfl
              case yF7 => (intro w hSw; (try dsimp only at hSw); go_simp; (try with_reducible rfl))
              (try simp only [Act.put, List.setIfInBounds_toArray, List.set_cons_zero, List.set_cons_succ])
              refine wpAnyH_done (by kernel_rfl) ?_ _
              refine NoPanic.normal ?_
              clear b0 b1 b2 b3 b4 b5 b6 b7
              obtain ⟨b0, b1, b2, b3, b4, b5, b6, b7⟩ := HCD.out wB HDB.out
              go_wp2_with fail
              refine (HRP.out _).mono ?_
              rintro e wC ⟨rfl, hkC⟩
              have HSC := Lib.hid (HSB.out.keep hkC)
              have HDC : Hid (wC.heap[D]? = W1.heap[D]?) := Lib.hid ((hkC.block D (lt_of_heap (HDB.out.trans HRD.out)) (fun f => f)).trans HDB.out)
              clear hkC b0 b1 b2 b3 b4 b5 b6 b7
              go_wp2_with fail
              go_meet
              rw [HSTE.out]
              exact HSC.out.less (fun _ f => f.elim)
            · go_wp2_with fail
              refine wp_region_noPanic ?_
              refine wp_region_held_drew (S := (fun W' : World => W'.cell? ⟨D, 0, none⟩ = some (.int .i64 0) ∧ W'.cell? ⟨D, 1, none⟩ = some (.int .i64 x) ∧ W'.cell? ⟨D, 2, none⟩ = some (.int .i64 k) ∧ W'.cell? ⟨D, 3, none⟩ = some (.int .i64 f) ∧ W'.cell? ⟨D, 4, none⟩ = some (.int .i64 t) ∧ W'.cell? ⟨D, 5, none⟩ = some (.int .i64 d) ∧ W'.cell? ⟨D, 6, none⟩ = some (.int .i64 n) ∧ W'.cell? ⟨D, 7, none⟩ = some (.bool y))) (by kernel_rfl) (HCD.out _ rfl) (fun hHeld => ?_)
              refine wpAnyH_take (i := 0) (oi := ?oT0) (v := ?vT0) ?hiT0 (by kernel_rfl) (by kernel_rfl) (by kernel_rfl) (fun _ _ _ h => h) (Or.inl ⟨?wT0, ?yT0⟩) (by assumption) ?rT0
              case hiT0 => (simp only [List.getElem?_toArray, List.getElem?_cons_zero]; try rfl)
              case wT0 => rfl
              case yT0 => (intro w hSw; (try dsimp only at hSw); go_simp; (try with_reducible rfl))
              (try simp only [Act.put, List.setIfInBounds_toArray, List.set_cons_zero, List.set_cons_succ])
              refine wpAnyH_take (i := 1) (oi := ?oT1) (v := ?vT1) ?hiT1 (by kernel_rfl) (by kernel_rfl) (by kernel_rfl) (fun _ _ _ h => h) (Or.inl ⟨?wT1, ?yT1⟩) (by assumption) ?rT1
              case hiT1 => (simp only [List.getElem?_toArray, List.getElem?_cons_succ, List.getElem?_cons_zero]; try rfl)
              case wT1 => rfl
              case yT1 => (intro w hSw; (try dsimp only at hSw); go_simp; (try with_reducible rfl))
              (try simp only [Act.put, List.setIfInBounds_toArray, List.set_cons_zero, List.set_cons_succ])
              refine wpAnyH_take (i := 2) (oi := ?oT2) (v := ?vT2) ?hiT2 (by kernel_rfl) (by kernel_rfl) (by kernel_rfl) (fun _ _ _ h => h) (Or.inl ⟨?wT2, ?yT2⟩) (by assumption) ?rT2
              case hiT2 => (simp only [List.getElem?_toArray, List.getElem?_cons_succ, List.getElem?_cons_zero]; try rfl)
              case wT2 => rfl
              case yT2 => (intro w hSw; (try dsimp only at hSw); go_simp; (try with_reducible rfl))
              (try simp only [Act.put, List.setIfInBounds_toArray, List.set_cons_zero, List.set_cons_succ])
              refine wpAnyH_take (i := 4) (oi := ?oT4) (v := ?vT4) ?hiT4 (by kernel_rfl) (by kernel_rfl) (by kernel_rfl) (fun _ _ _ h => h) (Or.inl ⟨?wT4, ?yT4⟩) (by assumption) ?rT4
              case hiT4 => (simp only [List.getElem?_toArray, List.getElem?_cons_succ, List.getElem?_cons_zero]; try rfl)
              case wT4 => rfl
              case yT4 => (intro w hSw; (try dsimp only at hSw); go_simp; (try with_reducible rfl))
              (try simp only [Act.put, List.setIfInBounds_toArray, List.set_cons_zero, List.set_cons_succ])
              refine wpAnyH_take (i := 5) (oi := ?oT5) (v := ?vT5) ?hiT5 (by kernel_rfl) (by kernel_rfl) (by kernel_rfl) (fun _ _ _ h => h) (Or.inl ⟨?wT5, ?yT5⟩) (by assumption) ?rT5
              case hiT5 => (simp only [List.getElem?_toArray, List.getElem?_cons_succ, List.getElem?_cons_zero]; try rfl)
              case wT5 => rfl
              case yT5 => (intro w hSw; (try dsimp only at hSw); go_simp; (try with_reducible rfl))
              (try simp only [Act.put, List.setIfInBounds_toArray, List.set_cons_zero, List.set_cons_succ])
              refine wpAnyH_ready (rs := [3]) (by kernel_rfl) (by simp) ?_
              refine AllReadyH.cons (o := ?oT3) ?hiT3 (fun K hK => ?_) AllReadyH.nil
              case hiT3 => (simp only [List.getElem?_toArray, List.getElem?_cons_succ, List.getElem?_cons_zero]; try rfl)
              go_simp
              (go_at_call 21; refine (HSD.out _ (Keep.refl NoF W1).drew).mono ?_; rintro e wA ⟨rfl, hSA⟩; have HSA := Lib.hid hSA; have HDA : Hid (wA.heap[D]? = W1.heap[D]?) := Lib.hid (hSA.2 D (.inr rfl)); clear hSA)
              go_wp2_with fail
              refine hK.out _ _ (HCD.out _ HDA.out) (fun hHeld => ?_)
              clear hK K
              (try simp only [Act.put, List.setIfInBounds_toArray, List.set_cons_zero, List.set_cons_succ])
              refine wpAnyH_ready (rs := [6]) (by kernel_rfl) (by simp) ?_
              refine AllReadyH.cons (o := ?oT6) ?hiT6 (fun K hK => ?_) AllReadyH.nil
              case hiT6 => (simp only [List.getElem?_toArray, List.getElem?_cons_succ, List.getElem?_cons_zero]; try rfl)
              go_simp
              (go_at_call 16; refine (HRP.out _).mono ?_; rintro e wB ⟨rfl, hkB⟩; have HSB := Lib.hid (HSA.out.1.keep hkB); have HDB : Hid (wB.heap[D]? = W1.heap[D]?) := Lib.hid ((hkB.block D (lt_of_heap (HDA.out.trans HRD.out)) (fun f => f)).trans HDA.out); clear hkB)
              go_wp2_with fail
              refine hK.out _ _ (HCD.out _ HDB.out) (fun hHeld => ?_)
              clear hK K
              (try simp only [Act.put, List.setIfInBounds_toArray, List.set_cons_zero, List.set_cons_succ])
              refine wpAnyH_take (i := 7) (oi := ?oT7) (v := ?vT7) ?hiT7 (by kernel_rfl) (by kernel_rfl) (by kernel_rfl) (fun _ _ _ h => h) (Or.inl ⟨?wT7, ?yT7⟩) (by assumption) ?rT7
              case hiT7 => (simp only [List.getElem?_toArray, List.getElem?_cons_succ, List.getElem?_cons_zero]; try rfl)
              case wT7 => rfl
              case yT7 => (intro w hSw; (try dsimp only at hSw); go_simp; (try with_reducible rfl))
              (try simp only [Act.put, List.setIfInBounds_toArray, List.set_cons_zero, List.set_cons_succ])
              refine wpAnyH_done (by kernel_rfl) ?_ _
              refine NoPanic.normal ?_
              clear b0 b1 b2 b3 b4 b5 b6 b7
              obtain ⟨b0, b1, b2, b3, b4, b5, b6, b7⟩ := HCD.out wB HDB.out
              go_wp2_with fail
              refine (HRP.out _).mono ?_
              rintro e wC ⟨rfl, hkC⟩
              have HSC := Lib.hid (HSB.out.keep hkC)
              have HDC : Hid (wC.heap[D]? = W1.heap[D]?) := Lib.hid ((hkC.block D (lt_of_heap (HDB.out.trans HRD.out)) (fun f => f)).trans HDB.out)
              clear hkC b0 b1 b2 b3 b4 b5 b6 b7
              obtain ⟨b0, b1, b2, b3, b4, b5, b6, b7⟩ := HCD.out wC HDC.out
              go_wp2_with fail
              refine (HWT.out wC _ _ HSC.out).mono ?_
              rintro e wE ⟨v6, rfl, hS6⟩
              have HS6 := Lib.hid hS6
              clear hS6 b0 b1 b2 b3 b4 b5 b6 b7
              go_wp2_with fail
              go_meet
              rw [HSTE.out]
              exact HS6.out.less (fun _ f => f.elim)
          · by_cases hk3 : kd = 3
            · subst hk3
              have hbl := HBL.out
              have hst : stepN ⟨3, x, ⟨k, f, t, d, n, y⟩⟩ ps = if inP ps x then insP (lookP ps x) ps else ps := by unfold stepN; rfl
              have htw := st_twice x HSG.out bx (by have := HPL.out; omega)
              rw [hbl] at htw hst
              have HTW := Lib.hid htw; have HSTE := Lib.hid hst
              clear htw hst hk0
              cases bl
              · clear hbl
                go_wp2_with fail
                refine HTW.out.mono ?_
                rintro e w5 ⟨rfl, hS5⟩
                have HS5 := Lib.hid hS5
                clear hS5 b0 b1 b2 b3 b4 b5 b6 b7
                go_wp2_with fail
                go_meet
                rw [HSTE.out]
                exact HS5.out.1.less (fun _ f => f.elim)
              · obtain ⟨m, rfl, hm, hlk⟩ := inP_nat hbl
                clear hbl
                go_wp2_with fail
                refine HTW.out.mono ?_
                rintro e w5 ⟨rfl, hS5⟩
                have HS5 := Lib.hid hS5
                clear hS5 b0 b1 b2 b3 b4 b5 b6 b7
                obtain ⟨b0, b1, b2, b3, b4, b5, b6, b7⟩ := HCD.out w5 (HS5.out.2 D (.inr rfl))
                obtain ⟨g1, o1, rfl, r0, r1, r2, r3, r4, r5⟩ := st_cell HS5.out.1 m hm
                have hwt := st_with ps[m] HS5.out.1 (by have := HPL.out; omega)
                rw [← hlk] at r0 r1 r2 r3 r4 r5 hwt
                generalize lookP ps m = Q at r0 r1 r2 r3 r4 r5 hwt HSTE
                clear hlk
                obtain ⟨qk, qf, qt, qd, qn, qy⟩ := Q
                unfold packVal at hwt
                dsimp only at r0 r1 r2 r3 r4 r5 hwt
                have HWT := Lib.hid hwt
                have hm2 : m < n0 := by rw [← HN0.out]; exact hm
                have hm3 : (m : Int) < n0 := by omega
                clear hwt hm
                go_wp2_with fail
                refine HWT.out.mono ?_
                rintro e w6 ⟨v6, rfl, hS6⟩
                have HS6 := Lib.hid hS6
                clear hS6 b0 b1 b2 b3 b4 b5 b6 b7 r0 r1 r2 r3 r4 r5
                go_wp2_with fail
                go_meet
                rw [HSTE.out]
                exact HS6.out.less (fun _ f => f.elim)
            · have hd0 : (kd == 0) = false := by simp [hk0]
              have hd3 : (kd == 3) = false := by simp [hk3]
              have hbl := HBL.out
              have hlk := st_look x HSG.out bx
              have htk := fun (G : Nat → Prop) W (hW : St G w W nb ps ps (.slice ao n0 cp)) => st_take x hW bx
              rw [hbl] at hlk htk
              cases bl
              · obtain ⟨_, hz⟩ := atP_out hbl
                have htp : takeP ps x = ps := by unfold takeP; rw [hbl]; rfl
                have hst : stepN ⟨kd, x, ⟨k, f, t, d, n, y⟩⟩ ps = ps := by
                  unfold stepN
                  rw [if_neg hk0, if_neg hk3]
                  split
                  · exact htp
                  · rfl
                rw [hz, htp] at htk
                rw [hz] at hlk
                have HSTE := Lib.hid hst; have HLK := Lib.hid hlk; have HTK := Lib.hid htk
                clear hst hlk htk hz htp hbl
                unfold packVal PackV.zero at HLK HTK
                by_cases hk1 : kd = 1
                · subst hk1
                  clear hk0 hk3 hd0 hd3
                  go_wp2_with fail
                  refine HLK.out.mono ?_
                  rintro e w5 ⟨rfl, hk5⟩
                  have HS5 := Lib.hid (HSG.out.keep hk5)
                  have HD5 : Hid (w5.heap[D]? = W1.heap[D]?) := Lib.hid (hk5.block D HLD.out.2 (fun f => f))
                  clear hk5 b0 b1 b2 b3 b4 b5 b6 b7
                  obtain ⟨E, hhE⟩ : ∃ E, w5.heap.size = E := ⟨_, rfl⟩
                  go_upto_region 13 with fail
                  have hrE := heap_new w5 (.cells #[.int .i64 0, .int .i64 0, .int .i64 0, .int .i64 0, .int .i64 0, .bool false] 23 (0, 0))
                  have hkE := keep_alloc w5 (.cells #[.int .i64 0, .int .i64 0, .int .i64 0, .int .i64 0, .int .i64 0, .bool false] 23 (0, 0))
                  have hsE : (w5.alloc (.cells #[.int .i64 0, .int .i64 0, .int .i64 0, .int .i64 0, .int .i64 0, .bool false] 23 (0, 0))).heap.size = w5.heap.size + 1 := size_alloc _ _
                  show Code.wp _ _ _ _ (w5.alloc (.cells #[.int .i64 0, .int .i64 0, .int .i64 0, .int .i64 0, .int .i64 0, .bool false] 23 (0, 0)))
                  rw [hhE] at hrE hsE
                  generalize w5.alloc (.cells #[.int .i64 0, .int .i64 0, .int .i64 0, .int .i64 0, .int .i64 0, .bool false] 23 (0, 0)) = W6 at hrE hkE hsE ⊢
                  (try rw [hhE])
                  have HCE : Hid (∀ W : World, W.heap[E]? = W6.heap[E]? → W.cell? ⟨E, 0, none⟩ = some (.int .i64 0) ∧ W.cell? ⟨E, 1, none⟩ = some (.int .i64 0) ∧ W.cell? ⟨E, 2, none⟩ = some (.int .i64 0) ∧ W.cell? ⟨E, 3, none⟩ = some (.int .i64 0) ∧ W.cell? ⟨E, 4, none⟩ = some (.int .i64 0) ∧ W.cell? ⟨E, 5, none⟩ = some (.bool false)) := Lib.hid fun W hW => by
                    have e := hW.trans hrE
                    refine ⟨?_, ?_, ?_, ?_, ?_, ?_⟩
                    all_goals (rw [cell_of_heap e]; rfl)
                  have HKE := Lib.hid hkE; have HRE := Lib.hid hrE; have HLE : Hid (E < W6.heap.size ∧ w5.heap.size = E) := Lib.hid ⟨by omega, hhE⟩
                  clear hrE hkE hsE hhE
                  have HS6 : Hid (St (fun k => (NoF k ∨ k = D) ∨ k = E) w W6 nb ps ps (.slice ao n0 cp)) := Lib.hid (HS5.out.add HKE.out E (Nat.le_of_eq HLE.out.2) HLE.out.1)
                  have HD6 : Hid (W6.heap[D]? = W1.heap[D]?) := Lib.hid ((HKE.out.block D (lt_of_heap (HD5.out.trans HRD.out)) (fun f => f)).trans HD5.out)
                  obtain ⟨b0, b1, b2, b3, b4, b5, b6, b7⟩ := HCD.out W6 HD6.out
                  obtain ⟨e0, e1, e2, e3, e4, e5⟩ := HCE.out W6 rfl
                  go_wp2_with fail
                  refine (HTK.out _ W6 HS6.out).mono ?_
                  rintro e w7 ⟨rfl, hS7⟩
                  have HS7 := Lib.hid hS7.1
                  have HD7 : Hid (w7.heap[D]? = W1.heap[D]?) := Lib.hid ((hS7.2 D (.inl (.inr rfl))).trans HD6.out)
                  have HE7 : Hid (w7.heap[E]? = some (.cells #[.int .i64 0, .int .i64 0, .int .i64 0, .int .i64 0, .int .i64 0, .bool false] 23 (0, 0))) := Lib.hid ((hS7.2 E (.inr rfl)).trans HRE.out)
                  clear hS7 b0 b1 b2 b3 b4 b5 b6 b7 e0 e1 e2 e3 e4 e5
                  obtain ⟨e0, e1, e2, e3, e4, e5⟩ := HCE.out w7 (HE7.out.trans HRE.out.symm)
                  have y0 := free_of_heap HE7.out 0
                  have y1 := free_of_heap HE7.out 1
                  have y2 := free_of_heap HE7.out 2
                  have y3 := free_of_heap HE7.out 3
                  have y4 := free_of_heap HE7.out 4
                  have y5 := free_of_heap HE7.out 5
                  go_upto_region 15 with fail
                  refine wp_phi (φ := fun W => Keep (fun k => k = E) w7 W ∧ W.heap[E]? = some (.cells #[.int .i64 0, .int .i64 0, .int .i64 0, .int .i64 0, .int .i64 0, .bool false] 23 (0, 0))) (set6 HE7.out) ?_
                  rintro W8 ⟨hk8, he8⟩
                  have HS8 := Lib.hid (HS7.out.keepG hk8 (fun _ e => .inr e))
                  have HE8 := Lib.hid he8
                  have HDE : Hid (D ≠ E) := Lib.hid (by have h1 := lt_of_heap (HD5.out.trans HRD.out); have h2 := HLE.out.2; omega)
                  have HD8 : Hid (W8.heap[D]? = W1.heap[D]?) := Lib.hid ((hk8.block D (lt_of_heap (HD7.out.trans HRD.out)) HDE.out).trans HD7.out)
                  clear hk8 he8 e0 e1 e2 e3 e4 e5 y0 y1 y2 y3 y4 y5
                  obtain ⟨b0, b1, b2, b3, b4, b5, b6, b7⟩ := HCD.out W8 HD8.out
                  obtain ⟨e0, e1, e2, e3, e4, e5⟩ := HCE.out W8 (HE8.out.trans HRE.out.symm)
                  go_quiet (fail)
                  go_wp2_with fail
                  go_meet
                  rw [HSTE.out]
                  exact (HS8.out.keep (by first | exact (Keep.refl NoF W8).drewN _ | exact (Keep.refl NoF W8).drew)).less (fun _ f => f.elim)
                · have hd1 : (kd == 1) = false := by simp [hk1]
                  go_wp2_with fail
                  refine HLK.out.mono ?_
                  rintro e w5 ⟨rfl, hk5⟩
                  have HS5 := Lib.hid (HSG.out.keep hk5)
                  have HD5 : Hid (w5.heap[D]? = W1.heap[D]?) := Lib.hid (hk5.block D HLD.out.2 (fun f => f))
                  clear hk5 b0 b1 b2 b3 b4 b5 b6 b7
                  obtain ⟨E, hhE⟩ : ∃ E, w5.heap.size = E := ⟨_, rfl⟩
                  go_upto_region 13 with fail
                  have hrE := heap_new w5 (.cells #[.int .i64 0, .int .i64 0, .int .i64 0, .int .i64 0, .int .i64 0, .bool false] 23 (0, 0))
                  have hkE := keep_alloc w5 (.cells #[.int .i64 0, .int .i64 0, .int .i64 0, .int .i64 0, .int .i64 0, .bool false] 23 (0, 0))
                  have hsE : (w5.alloc (.cells #[.int .i64 0, .int .i64 0, .int .i64 0, .int .i64 0, .int .i64 0, .bool false] 23 (0, 0))).heap.size = w5.heap.size + 1 := size_alloc _ _
                  show Code.wp _ _ _ _ (w5.alloc (.cells #[.int .i64 0, .int .i64 0, .int .i64 0, .int .i64 0, .int .i64 0, .bool false] 23 (0, 0)))
                  rw [hhE] at hrE hsE
                  generalize w5.alloc (.cells #[.int .i64 0, .int .i64 0, .int .i64 0, .int .i64 0, .int .i64 0, .bool false] 23 (0, 0)) = W6 at hrE hkE hsE ⊢
                  (try rw [hhE])
                  have HCE : Hid (∀ W : World, W.heap[E]? = W6.heap[E]? → W.cell? ⟨E, 0, none⟩ = some (.int .i64 0) ∧ W.cell? ⟨E, 1, none⟩ = some (.int .i64 0) ∧ W.cell? ⟨E, 2, none⟩ = some (.int .i64 0) ∧ W.cell? ⟨E, 3, none⟩ = some (.int .i64 0) ∧ W.cell? ⟨E, 4, none⟩ = some (.int .i64 0) ∧ W.cell? ⟨E, 5, none⟩ = some (.bool false)) := Lib.hid fun W hW => by
                    have e := hW.trans hrE
                    refine ⟨?_, ?_, ?_, ?_, ?_, ?_⟩
                    all_goals (rw [cell_of_heap e]; rfl)
                  have HKE := Lib.hid hkE; have HRE := Lib.hid hrE; have HLE : Hid (E < W6.heap.size ∧ w5.heap.size = E) := Lib.hid ⟨by omega, hhE⟩
                  clear hrE hkE hsE hhE
                  have HS6 : Hid (St (fun k => (NoF k ∨ k = D) ∨ k = E) w W6 nb ps ps (.slice ao n0 cp)) := Lib.hid (HS5.out.add HKE.out E (Nat.le_of_eq HLE.out.2) HLE.out.1)
                  have HD6 : Hid (W6.heap[D]? = W1.heap[D]?) := Lib.hid ((HKE.out.block D (lt_of_heap (HD5.out.trans HRD.out)) (fun f => f)).trans HD5.out)
                  obtain ⟨b0, b1, b2, b3, b4, b5, b6, b7⟩ := HCD.out W6 HD6.out
                  obtain ⟨e0, e1, e2, e3, e4, e5⟩ := HCE.out W6 rfl
                  go_upto_region 15 with fail
                  go_quiet (fail)
                  go_wp2_with fail
                  go_meet
                  rw [HSTE.out]
                  exact (HS6.out.keep (by first | exact (Keep.refl NoF W6).drewN _ | exact (Keep.refl NoF W6).drew)).less (fun _ f => f.elim)
              · obtain ⟨m, rfl, hm, hlq⟩ := inP_nat hbl
                have htp : takeP ps m = ps.eraseIdx m := by unfold takeP; rw [hbl]; rfl
                obtain ⟨Q, hQ⟩ : ∃ Q, lookP ps m = Q := ⟨_, rfl⟩
                rw [hQ] at hlk htk hlq
                rw [htp] at htk
                have HLQ := Lib.hid hlq
                have hm2 : m < n0 := by rw [← HN0.out]; exact hm
                have hm3 : (m : Int) < n0 := by omega
                have HM := Lib.hid hm
                have HLK := Lib.hid hlk; have HTK := Lib.hid htk
                clear hlk htk hlq hbl hQ
                have hrc : Hid (∀ G W, St G w W nb ps ps (.slice ao n0 cp) → ∃ g1 o1, ao = some ⟨g1, o1, none⟩ ∧ PkAt W g1 (o1 + m * 6) Q) := Lib.hid fun G W hW => by
                  obtain ⟨g1, o1, e, hp⟩ := st_cell hW m HM.out
                  rw [← HLQ.out] at hp
                  exact ⟨g1, o1, e, hp⟩
                have hrc2 : Hid (∀ G W, St G w W nb (ps.eraseIdx m) ps (.slice ao n0 cp) → ∃ g1 o1, ao = some ⟨g1, o1, none⟩ ∧ PkAt W g1 (o1 + m * 6) Q) := Lib.hid fun G W hW => by
                  obtain ⟨g1, o1, e, hp⟩ := st_cell hW m HM.out
                  rw [← HLQ.out] at hp
                  exact ⟨g1, o1, e, hp⟩
                obtain ⟨qk, qf, qt, qd, qn, qy⟩ := Q
                unfold packVal at HLK HTK
                dsimp only at HLK HTK
                by_cases hk1 : kd = 1
                · subst hk1
                  have HSTE : Hid (stepN ⟨1, m, ⟨k, f, t, d, n, y⟩⟩ ps = ps.eraseIdx m) := Lib.hid (by unfold stepN; rw [if_neg hk0, if_neg hk3, if_pos rfl]; exact htp)
                  clear hk0 hk3 hd0 hd3 htp
                  go_wp2_with fail
                  refine HLK.out.mono ?_
                  rintro e w5 ⟨rfl, hk5⟩
                  have HS5 := Lib.hid (HSG.out.keep hk5)
                  have HD5 : Hid (w5.heap[D]? = W1.heap[D]?) := Lib.hid (hk5.block D HLD.out.2 (fun f => f))
                  clear hk5 b0 b1 b2 b3 b4 b5 b6 b7
                  obtain ⟨E, hhE⟩ : ∃ E, w5.heap.size = E := ⟨_, rfl⟩
                  go_upto_region 13 with fail
                  have hrE := heap_new w5 (.cells #[.int .i64 qk, .int .i64 qf, .int .i64 qt, .int .i64 qd, .int .i64 qn, .bool qy] 23 (0, 0))
                  have hkE := keep_alloc w5 (.cells #[.int .i64 qk, .int .i64 qf, .int .i64 qt, .int .i64 qd, .int .i64 qn, .bool qy] 23 (0, 0))
                  have hsE : (w5.alloc (.cells #[.int .i64 qk, .int .i64 qf, .int .i64 qt, .int .i64 qd, .int .i64 qn, .bool qy] 23 (0, 0))).heap.size = w5.heap.size + 1 := size_alloc _ _
                  show Code.wp _ _ _ _ (w5.alloc (.cells #[.int .i64 qk, .int .i64 qf, .int .i64 qt, .int .i64 qd, .int .i64 qn, .bool qy] 23 (0, 0)))
                  rw [hhE] at hrE hsE
                  generalize w5.alloc (.cells #[.int .i64 qk, .int .i64 qf, .int .i64 qt, .int .i64 qd, .int .i64 qn, .bool qy] 23 (0, 0)) = W6 at hrE hkE hsE ⊢
                  (try rw [hhE])
                  have HCE : Hid (∀ W : World, W.heap[E]? = W6.heap[E]? → W.cell? ⟨E, 0, none⟩ = some (.int .i64 qk) ∧ W.cell? ⟨E, 1, none⟩ = some (.int .i64 qf) ∧ W.cell? ⟨E, 2, none⟩ = some (.int .i64 qt) ∧ W.cell? ⟨E, 3, none⟩ = some (.int .i64 qd) ∧ W.cell? ⟨E, 4, none⟩ = some (.int .i64 qn) ∧ W.cell? ⟨E, 5, none⟩ = some (.bool qy)) := Lib.hid fun W hW => by
                    have e := hW.trans hrE
                    refine ⟨?_, ?_, ?_, ?_, ?_, ?_⟩
                    all_goals (rw [cell_of_heap e]; rfl)
                  have HKE := Lib.hid hkE; have HRE := Lib.hid hrE; have HLE : Hid (E < W6.heap.size ∧ w5.heap.size = E) := Lib.hid ⟨by omega, hhE⟩
                  clear hrE hkE hsE hhE
                  have HS6 : Hid (St (fun k => (NoF k ∨ k = D) ∨ k = E) w W6 nb ps ps (.slice ao n0 cp)) := Lib.hid (HS5.out.add HKE.out E (Nat.le_of_eq HLE.out.2) HLE.out.1)
                  have HD6 : Hid (W6.heap[D]? = W1.heap[D]?) := Lib.hid ((HKE.out.block D (lt_of_heap (HD5.out.trans HRD.out)) (fun f => f)).trans HD5.out)
                  obtain ⟨b0, b1, b2, b3, b4, b5, b6, b7⟩ := HCD.out W6 HD6.out
                  obtain ⟨e0, e1, e2, e3, e4, e5⟩ := HCE.out W6 rfl
                  go_wp2_with fail
                  refine (HTK.out _ W6 HS6.out).mono ?_
                  rintro e w7 ⟨rfl, hS7⟩
                  have HS7 := Lib.hid hS7.1
                  have HD7 : Hid (w7.heap[D]? = W1.heap[D]?) := Lib.hid ((hS7.2 D (.inl (.inr rfl))).trans HD6.out)
                  have HE7 : Hid (w7.heap[E]? = some (.cells #[.int .i64 qk, .int .i64 qf, .int .i64 qt, .int .i64 qd, .int .i64 qn, .bool qy] 23 (0, 0))) := Lib.hid ((hS7.2 E (.inr rfl)).trans HRE.out)
                  clear hS7 b0 b1 b2 b3 b4 b5 b6 b7 e0 e1 e2 e3 e4 e5
                  obtain ⟨e0, e1, e2, e3, e4, e5⟩ := HCE.out w7 (HE7.out.trans HRE.out.symm)
                  have y0 := free_of_heap HE7.out 0
                  have y1 := free_of_heap HE7.out 1
                  have y2 := free_of_heap HE7.out 2
                  have y3 := free_of_heap HE7.out 3
                  have y4 := free_of_heap HE7.out 4
                  have y5 := free_of_heap HE7.out 5
                  go_upto_region 15 with fail
                  refine wp_phi (φ := fun W => Keep (fun k => k = E) w7 W ∧ W.heap[E]? = some (.cells #[.int .i64 qk, .int .i64 qf, .int .i64 qt, .int .i64 qd, .int .i64 qn, .bool qy] 23 (0, 0))) (set6 HE7.out) ?_
                  rintro W8 ⟨hk8, he8⟩
                  have HS8 := Lib.hid (HS7.out.keepG hk8 (fun _ e => .inr e))
                  have HE8 := Lib.hid he8
                  have HDE : Hid (D ≠ E) := Lib.hid (by have h1 := lt_of_heap (HD5.out.trans HRD.out); have h2 := HLE.out.2; omega)
                  have HD8 : Hid (W8.heap[D]? = W1.heap[D]?) := Lib.hid ((hk8.block D (lt_of_heap (HD7.out.trans HRD.out)) HDE.out).trans HD7.out)
                  clear hk8 he8 e0 e1 e2 e3 e4 e5 y0 y1 y2 y3 y4 y5
                  obtain ⟨b0, b1, b2, b3, b4, b5, b6, b7⟩ := HCD.out W8 HD8.out
                  obtain ⟨e0, e1, e2, e3, e4, e5⟩ := HCE.out W8 (HE8.out.trans HRE.out.symm)
                  obtain ⟨g1, o1, rfl, r0, r1, r2, r3, r4, r5⟩ := hrc2.out _ W8 HS8.out
                  dsimp only at r0 r1 r2 r3 r4 r5
                  go_quiet (fail)
                  go_wp2_with fail
                  refine wp_named (wq := W8) (by first | exact (Keep.refl NoF W8).drewN _ | exact (Keep.refl NoF W8).drew) ?_
                  intro W9 hk9
                  have HS9 := Lib.hid (HS8.out.keep hk9)
                  have HD9 : Hid (W9.heap[D]? = W1.heap[D]?) := Lib.hid ((hk9.block D (lt_of_heap (HD8.out.trans HRD.out)) (fun f => f)).trans HD8.out)
                  clear hk9 b0 b1 b2 b3 b4 b5 b6 b7 e0 e1 e2 e3 e4 e5 r0 r1 r2 r3 r4 r5
                  obtain ⟨SR1, SR2⟩ := And.intro (fun W hW => (src_row HS9.out HN0.out m (by omega)).1 W hW) (fun W hW => (src_row HS9.out HN0.out (m + 1) (by omega)).2 W hW)
                  have SRC1 := Lib.hid SR1; have SRC2 := Lib.hid SR2
                  clear SR1 SR2
                  have HHI := Lib.hid (fun W => run_upto (P := Tryz.prog) Tryz.underlying38 infoPk (some ⟨g1, o1, none⟩) n0 cp m (by omega) W)
                  have hlo := fun W => run_from (P := Tryz.prog) Tryz.underlying38 infoPk (some ⟨g1, o1, none⟩) n0 cp (m + 1) (by omega) W
                  rw [show ((m + 1 : Nat) : Int) = (m : Int) + 1 by omega] at hlo
                  have HLO := Lib.hid hlo
                  clear hlo
                  have hsum : IntKind.i64.wrap ((m : Int) + 1) = m + 1 := IntWalk.i64_in _ (by omega)
                  have HC9 : Hid (∀ W, Keep NoF W9 W → W.cell? ⟨D, 1, none⟩ = some (.int .i64 m)) := Lib.hid fun W hW => (HCD.out W ((hW.block D (lt_of_heap (HD9.out.trans HRD.out)) (fun f => f)).trans HD9.out)).2.1
                  have K0 := Lib.hid ((Keep.refl NoF W9).drew)
                  refine wp_region_noPanic ?_
                  refine wp_region_held_drew (S := (fun W' : World => W'.cell? ⟨D, 1, none⟩ = some (.int .i64 ↑m))) (by kernel_rfl) (HC9.out _ (K0.out)) (fun hHeld => ?_)
                  refine wpAnyH_take (i := 0) (oi := ?oC0) (v := ?vC0) ?hiC0 (by kernel_rfl) (by kernel_rfl) (by kernel_rfl) (fun _ _ _ h => h) (Or.inl ⟨?wC0, ?yC0⟩) (by assumption) ?rC0
                  case hiC0 => (simp only [List.getElem?_toArray, List.getElem?_cons_zero]; try rfl)
                  case wC0 => rfl
                  case yC0 => (intro w hSw; (try dsimp only at hSw); go_simp; (try with_reducible rfl))
                  (try simp only [Act.put, List.setIfInBounds_toArray, List.set_cons_zero, List.set_cons_succ])
                  refine wpAnyH_take (i := 1) (oi := ?oC1) (v := ?vC1) ?hiC1 (by kernel_rfl) (by kernel_rfl) (by kernel_rfl) (fun _ _ _ h => h) (Or.inl ⟨?wC1, ?yC1⟩) (by assumption) ?rC1
                  case hiC1 => (simp only [List.getElem?_toArray, List.getElem?_cons_succ, List.getElem?_cons_zero]; try rfl)
                  case wC1 => rfl
                  case yC1 => (intro w hSw; (try dsimp only at hSw); go_simp; (try with_reducible rfl))
                  (try simp only [Act.put, List.setIfInBounds_toArray, List.set_cons_zero, List.set_cons_succ])
                  refine wpAnyH_take (i := 2) (oi := ?oC2) (v := ?vC2) ?hiC2 (by kernel_rfl) (by kernel_rfl) (by kernel_rfl) (fun _ _ _ h => h) (Or.inl ⟨?wC2, ?yC2⟩) (by assumption) ?rC2
                  case hiC2 => (simp only [List.getElem?_toArray, List.getElem?_cons_succ, List.getElem?_cons_zero]; try rfl)
                  case wC2 => rfl
                  case yC2 => (intro w hSw; (try dsimp only at hSw); go_simp; (try with_reducible rfl))
                  (try simp only [Act.put, List.setIfInBounds_toArray, List.set_cons_zero, List.set_cons_succ])
                  refine wpAnyH_take (i := 3) (oi := ?oC3) (v := .slice (some ⟨g1, o1, none⟩) m cp) ?hiC3 (by kernel_rfl) (by kernel_rfl) (by kernel_rfl) (fun _ _ _ h => h) (Or.inl ⟨?wC3, ?yC3⟩) (by assumption) ?rC3
                  case hiC3 => (simp only [List.getElem?_toArray, List.getElem?_cons_succ, List.getElem?_cons_zero]; try rfl)
                  case wC3 => rfl
                  case yC3 => (intro w hSw; exact slice_yields rfl (HHI.out w))
                  (try simp only [Act.put, List.setIfInBounds_toArray, List.set_cons_zero, List.set_cons_succ])
                  refine wpAnyH_take (i := 5) (oi := ?oC5) (v := ?vC5) ?hiC5 (by kernel_rfl) (by kernel_rfl) (by kernel_rfl) (fun _ _ _ h => h) (Or.inl ⟨?wC5, ?yC5⟩) (by assumption) ?rC5
                  case hiC5 => (simp only [List.getElem?_toArray, List.getElem?_cons_succ, List.getElem?_cons_zero]; try rfl)
                  case wC5 => rfl
                  case yC5 => (intro w hSw; (try dsimp only at hSw); go_simp; (try with_reducible rfl))
                  (try simp only [Act.put, List.setIfInBounds_toArray, List.set_cons_zero, List.set_cons_succ])
                  refine wpAnyH_take (i := 6) (oi := ?oC6) (v := ?vC6) ?hiC6 (by kernel_rfl) (by kernel_rfl) (by kernel_rfl) (fun _ _ _ h => h) (Or.inl ⟨?wC6, ?yC6⟩) (by assumption) ?rC6
                  case hiC6 => (simp only [List.getElem?_toArray, List.getElem?_cons_succ, List.getElem?_cons_zero]; try rfl)
                  case wC6 => rfl
                  case yC6 => (intro w hSw; (try dsimp only at hSw); go_simp; (try with_reducible rfl))
                  (try simp only [Act.put, List.setIfInBounds_toArray, List.set_cons_zero, List.set_cons_succ])
                  refine wpAnyH_take (i := 7) (oi := ?oC7) (v := ?vC7) ?hiC7 (by kernel_rfl) (by kernel_rfl) (by kernel_rfl) (fun _ _ _ h => h) (Or.inl ⟨?wC7, ?yC7⟩) (by assumption) ?rC7
                  case hiC7 => (simp only [List.getElem?_toArray, List.getElem?_cons_succ, List.getElem?_cons_zero]; try rfl)
                  case wC7 => rfl
                  case yC7 => (intro w hSw; (try dsimp only at hSw); go_simp; (try with_reducible rfl))
                  (try simp only [Act.put, List.setIfInBounds_toArray, List.set_cons_zero, List.set_cons_succ])
                  refine wpAnyH_take (i := 8) (oi := ?oC8) (v := ?vC8) ?hiC8 (by kernel_rfl) (by kernel_rfl) (by kernel_rfl) (fun _ _ _ h => h) (Or.inl ⟨?wC8, ?yC8⟩) (by assumption) ?rC8
                  case hiC8 => (simp only [List.getElem?_toArray, List.getElem?_cons_succ, List.getElem?_cons_zero]; try rfl)
                  case wC8 => rfl
                  case yC8 => (intro w hSw; (try dsimp only at hSw); go_simp; (try with_reducible rfl))
                  (try simp only [Act.put, List.setIfInBounds_toArray, List.set_cons_zero, List.set_cons_succ])
                  refine wpAnyH_take (i := 9) (oi := ?oC9) (v := .slice (fromA (some ⟨g1, o1, none⟩) (m + 1) cp 6) (n0 - (m + 1)) (cp - (m + 1))) ?hiC9 (by kernel_rfl) (by kernel_rfl) (by kernel_rfl) (fun _ _ _ h => h) (Or.inl ⟨?wC9, ?yC9⟩) (by assumption) ?rC9
                  case hiC9 => (simp only [List.getElem?_toArray, List.getElem?_cons_succ, List.getElem?_cons_zero]; try rfl)
                  case wC9 => rfl
                  case yC9 => (intro w hSw; exact slice_yields rfl (HLO.out w))
                  (try simp only [Act.put, List.setIfInBounds_toArray, List.set_cons_zero, List.set_cons_succ])
                  refine wpAnyH_ready (rs := [4]) (by kernel_rfl) (by simp) ?_
                  refine (AllReadyH.cons (o := ?oC4) ?hiC4 (fun K hK => ?_) AllReadyH.nil)
                  case hiC4 => (simp only [List.getElem?_toArray, List.getElem?_cons_succ, List.getElem?_cons_zero]; try rfl)
                  refine step_app 38 38 23 (.agg #[.int .i64 0, .int .i64 0, .int .i64 0, .int .i64 0, .int .i64 0, .bool false]) 6 48 Tryz.underlying38 infoPk rfl (by decide) (by decide) rfl rfl rfl rfl (v := .slice none 0 0) (sv := (.slice (some ⟨g1, o1, none⟩) m cp)) (World.ownsRow_nil _ _ _ _) (SRC1.out _ (K0.out)) (by omega) ?_
                  intro a1 c1 W1' hown1 hgr1 hfr1
                  simp only [Nat.zero_add, List.nil_append] at hown1 hgr1 hfr1 ⊢
                  have kA : Keep NoF W9 W1' := (K0.out).grown hgr1 (fun k _ e => by cases e)
                  have fr1 : ∀ b, (Value.slice a1 m c1).ownBlock = some b → W9.heap.size ≤ b := fun b hk => by
                    rcases hfr1 with f | f
                    · rw [f] at hk; cases hk
                    · rw [f] at hk; injection hk with hk; exact Nat.le_trans (K0.out).size (Nat.le_of_eq hk)
                  refine hK.out _ _ (HC9.out _ (kA)) (fun hHeld => ?_)
                  clear hK K
                  (try simp only [Act.put, List.setIfInBounds_toArray, List.set_cons_zero, List.set_cons_succ])
                  refine wpAnyH_ready (rs := [10]) (by kernel_rfl) (by simp) ?_
                  refine (AllReadyH.cons (o := ?oC10) ?hiC10 (fun K hK => ?_) AllReadyH.nil)
                  case hiC10 => (simp only [List.getElem?_toArray, List.getElem?_cons_succ, List.getElem?_cons_zero]; try rfl)
                  refine step_app 38 38 23 (.agg #[.int .i64 0, .int .i64 0, .int .i64 0, .int .i64 0, .int .i64 0, .bool false]) 6 48 Tryz.underlying38 infoPk rfl (by decide) (by decide) rfl rfl rfl rfl (v := .slice a1 m c1) (sv := (.slice (fromA (some ⟨g1, o1, none⟩) (m + 1) cp 6) (n0 - (m + 1)) (cp - (m + 1)))) (hown1) (SRC2.out _ kA) (by omega) ?_
                  intro a3 c3 W3 hown3 hgr3 hfr3
                  have kB : Keep NoF W9 W3 := kA.grown hgr3 (fun b hk e => by have := fr1 b e; omega)
                  have fr3 : ∀ b, (Value.slice a3 (m + (n0 - (m + 1))) c3).ownBlock = some b → W9.heap.size ≤ b := fun b hk => by
                    rcases hfr3 with f | f
                    · rw [f] at hk; exact fr1 b hk
                    · rw [f] at hk; injection hk with hk; exact Nat.le_trans (kA).size (Nat.le_of_eq hk)
                  refine hK.out _ _ (HC9.out _ (kB)) (fun hHeld => ?_)
                  clear hK K
                  (try simp only [Act.put, List.setIfInBounds_toArray, List.set_cons_zero, List.set_cons_succ])
                  refine wpAnyH_take (i := 11) (oi := ?oC11) (v := ?vC11) ?hiC11 (by kernel_rfl) (by kernel_rfl) (by kernel_rfl) (fun _ _ _ h => h) (Or.inl ⟨?wC11, ?yC11⟩) (by assumption) ?rC11
                  case hiC11 => (simp only [List.getElem?_toArray, List.getElem?_cons_succ, List.getElem?_cons_zero]; try rfl)
                  case wC11 => rfl
                  case yC11 => (intro w hSw; (try dsimp only at hSw); go_simp; (try with_reducible rfl))
                  (try simp only [Act.put, List.setIfInBounds_toArray, List.set_cons_zero, List.set_cons_succ])
                  refine wpAnyH_done (by kernel_rfl) ?_ _
                  refine NoPanic.normal ?_
                  have e1 : m + (n0 - (m + 1)) = n0 - 1 := by omega
                  have hown5 : W3.ownsRow 0 23 6 (.slice a3 (n0 - 1) c3) (n0 - 1) ((ps.eraseIdx m).flatMap pkL) := by
                    rw [e1] at hown3
                    rw [List.eraseIdx_eq_take_drop_succ, List.flatMap_append]
                    exact hown3
                  rw [e1] at fr3
                  have HS10 := Lib.hid (HS9.out.row kB hown5 (by rw [List.length_eraseIdx_of_lt HM.out, HN0.out]) fr3)
                  clear hown1 hgr1 hfr1 fr1 hown3 hgr3 hfr3 hown5 kA kB fr3
                  simp only [e1]
                  go_wp2_with fail
                  go_meet
                  rw [HSTE.out]
                  exact HS10.out.less (fun _ f => f.elim)
                · have hd1 : (kd == 1) = false := by simp [hk1]
                  have HSTE : Hid (stepN ⟨kd, m, ⟨k, f, t, d, n, y⟩⟩ ps = ps) := Lib.hid (by unfold stepN; rw [if_neg hk0, if_neg hk3, if_neg hk1])
                  clear htp
                  go_wp2_with fail
                  refine HLK.out.mono ?_
                  rintro e w5 ⟨rfl, hk5⟩
                  have HS5 := Lib.hid (HSG.out.keep hk5)
                  have HD5 : Hid (w5.heap[D]? = W1.heap[D]?) := Lib.hid (hk5.block D HLD.out.2 (fun f => f))
                  clear hk5 b0 b1 b2 b3 b4 b5 b6 b7
                  obtain ⟨E, hhE⟩ : ∃ E, w5.heap.size = E := ⟨_, rfl⟩
                  go_upto_region 13 with fail
                  have hrE := heap_new w5 (.cells #[.int .i64 qk, .int .i64 qf, .int .i64 qt, .int .i64 qd, .int .i64 qn, .bool qy] 23 (0, 0))
                  have hkE := keep_alloc w5 (.cells #[.int .i64 qk, .int .i64 qf, .int .i64 qt, .int .i64 qd, .int .i64 qn, .bool qy] 23 (0, 0))
                  have hsE : (w5.alloc (.cells #[.int .i64 qk, .int .i64 qf, .int .i64 qt, .int .i64 qd, .int .i64 qn, .bool qy] 23 (0, 0))).heap.size = w5.heap.size + 1 := size_alloc _ _
                  show Code.wp _ _ _ _ (w5.alloc (.cells #[.int .i64 qk, .int .i64 qf, .int .i64 qt, .int .i64 qd, .int .i64 qn, .bool qy] 23 (0, 0)))
                  rw [hhE] at hrE hsE
                  generalize w5.alloc (.cells #[.int .i64 qk, .int .i64 qf, .int .i64 qt, .int .i64 qd, .int .i64 qn, .bool qy] 23 (0, 0)) = W6 at hrE hkE hsE ⊢
                  (try rw [hhE])
                  have HCE : Hid (∀ W : World, W.heap[E]? = W6.heap[E]? → W.cell? ⟨E, 0, none⟩ = some (.int .i64 qk) ∧ W.cell? ⟨E, 1, none⟩ = some (.int .i64 qf) ∧ W.cell? ⟨E, 2, none⟩ = some (.int .i64 qt) ∧ W.cell? ⟨E, 3, none⟩ = some (.int .i64 qd) ∧ W.cell? ⟨E, 4, none⟩ = some (.int .i64 qn) ∧ W.cell? ⟨E, 5, none⟩ = some (.bool qy)) := Lib.hid fun W hW => by
                    have e := hW.trans hrE
                    refine ⟨?_, ?_, ?_, ?_, ?_, ?_⟩
                    all_goals (rw [cell_of_heap e]; rfl)
                  have HKE := Lib.hid hkE; have HRE := Lib.hid hrE; have HLE : Hid (E < W6.heap.size ∧ w5.heap.size = E) := Lib.hid ⟨by omega, hhE⟩
                  clear hrE hkE hsE hhE
                  have HS6 : Hid (St (fun k => (NoF k ∨ k = D) ∨ k = E) w W6 nb ps ps (.slice ao n0 cp)) := Lib.hid (HS5.out.add HKE.out E (Nat.le_of_eq HLE.out.2) HLE.out.1)
                  have HD6 : Hid (W6.heap[D]? = W1.heap[D]?) := Lib.hid ((HKE.out.block D (lt_of_heap (HD5.out.trans HRD.out)) (fun f => f)).trans HD5.out)
                  obtain ⟨b0, b1, b2, b3, b4, b5, b6, b7⟩ := HCD.out W6 HD6.out
                  obtain ⟨e0, e1, e2, e3, e4, e5⟩ := HCE.out W6 rfl
                  go_upto_region 15 with fail
                  obtain ⟨g1, o1, rfl, r0, r1, r2, r3, r4, r5⟩ := hrc.out _ W6 HS6.out
                  dsimp only at r0 r1 r2 r3 r4 r5
                  go_quiet (fail)
                  go_wp2_with fail
                  go_meet
                  rw [HSTE.out]
                  exact (HS6.out.keep (by first | exact (Keep.refl NoF W6).drewN _ | exact (Keep.refl NoF W6).drew)).less (fun _ f => f.elim)
        case rest =>
          have hlen2 := stepN_length ⟨kd, x, ⟨k, f, t, d, n, y⟩⟩ ps
          generalize stepN ⟨kd, x, ⟨k, f, t, d, n, y⟩⟩ ps = qs at hcut hlen2
          obtain ⟨n2, ao2, cp2, rfl, hn2, _, _, _⟩ := hcut.slice
          have HS2 := Lib.hid hcut; have HN2 := Lib.hid hn2
          have hln := st_len hcut
          rw [hn2] at hln
          have HLN := Lib.hid hln
          have HQ2 : Hid (qs.length ≤ i + 1) := Lib.hid (by omega)
          clear hcut hln hlen2 hn2 b0 b1 b2 b3 b4 b5 b6 b7
          have hne : ((n2 : Int) != n2) = false := by simp
          go_wp2_with fail
          refine HLN.out.mono ?_
          rintro e w' ⟨rfl, hw⟩
          obtain rfl : wc = w' := hw.symm
          go_wp2_with fail
          go_roundw
          case rel => exact ⟨i + 1, qs, by omega, by omega, HQ2.out, by go_num, HS2.out⟩
          case measure => simp [intOf]; omega
    · obtain ⟨wq, rfl⟩ : ∃ W, W = wr := ⟨_, rfl⟩
      have hcase : (decide (i < len0) = false) ∨ (decide ((i : Int) < len0) = true ∧ decide ((i : Int) < 50) = false) := by
        by_cases h1 : (i : Int) < len0
        · right; exact ⟨decide_eq_true h1, decide_eq_false (by omega)⟩
        · left; exact decide_eq_false (by omega)
      have hn50 : n0 ≤ 50 := by omega
      clear hlt hi hi50 hpi
      rcases hcase with hd1 | ⟨hd1, hd2⟩
      rotate_left
      have hn2 : ¬ (i : Int) < 50 := of_decide_eq_false hd2
      have hn1 : (i : Int) < len0 := of_decide_eq_true hd1
      all_goals
        go_wp2_with fail
        go_loopw [11] (fun iv wr => ∃ j : Nat, j ≤ n0 ∧ iv = .int .i64 j ∧ St NoF w wr nb ps ps (.slice ao n0 cp)) (fun iv _ => n0 - (intOf iv).toNat)
        case atStart => exact ⟨0, Nat.zero_le _, rfl, HSi.out⟩
        case round =>
          obtain ⟨j, hj, rfl, hS⟩ := hrel
          have HSj := Lib.hid hS
          (try clear hn1)
          (try clear hn2)
          (try clear hd1)
          (try clear hd2)
          clear hS
          by_cases hlt : j < n0
          · have hlt2 : (j : Int) < n0 := by omega
            have hjl : j < ps.length := by rw [HN0.out]; exact hlt
            have hin : inP ps (j : Int) = true := by unfold inP; simp; exact hjl
            have hlk := st_look (j : Int) HSj.out (by omega)
            rw [hin] at hlk
            obtain ⟨hi2, -, hl2, -⟩ := atP_in hin
            obtain ⟨Q, hQ⟩ : ∃ Q, lookP ps j = Q := ⟨_, rfl⟩
            rw [hQ] at hlk hl2
            have hrc : Hid (∀ W, St NoF w W nb ps ps (.slice ao n0 cp) → ∃ g1 o1, ao = some ⟨g1, o1, none⟩ ∧ PkAt W g1 (o1 + j * 6) Q) := Lib.hid fun W hW => by
              obtain ⟨g1, o1, e, hp⟩ := st_cell hW j hjl
              have e2 : Q = ps[j] := by rw [hl2]; rfl
              rw [← e2] at hp
              exact ⟨g1, o1, e, hp⟩
            have HLK := Lib.hid hlk
            clear hin hlk hi2 hl2 hQ hjl
            obtain ⟨qk, qf, qt, qd, qn, qy⟩ := Q
            unfold packVal at HLK
            dsimp only at HLK
            go_wp2_with fail
            refine HLK.out.mono ?_
            rintro e w5 ⟨rfl, hk5⟩
            have HS5 := Lib.hid (HSj.out.keep hk5)
            clear hk5
            obtain ⟨E, hhE⟩ : ∃ E, w5.heap.size = E := ⟨_, rfl⟩
            go_upto_region 35 with fail
            have hrE := heap_new w5 (.cells #[.int .i64 qk, .int .i64 qf, .int .i64 qt, .int .i64 qd, .int .i64 qn, .bool qy] 23 (0, 0))
            have hkE := keep_alloc w5 (.cells #[.int .i64 qk, .int .i64 qf, .int .i64 qt, .int .i64 qd, .int .i64 qn, .bool qy] 23 (0, 0))
            have hsE : (w5.alloc (.cells #[.int .i64 qk, .int .i64 qf, .int .i64 qt, .int .i64 qd, .int .i64 qn, .bool qy] 23 (0, 0))).heap.size = w5.heap.size + 1 := size_alloc _ _
            show Code.wp _ _ _ _ (w5.alloc (.cells #[.int .i64 qk, .int .i64 qf, .int .i64 qt, .int .i64 qd, .int .i64 qn, .bool qy] 23 (0, 0)))
            rw [hhE] at hrE hsE
            generalize w5.alloc (.cells #[.int .i64 qk, .int .i64 qf, .int .i64 qt, .int .i64 qd, .int .i64 qn, .bool qy] 23 (0, 0)) = W6 at hrE hkE hsE ⊢
            (try rw [hhE])
            have HCE : Hid (∀ W : World, W.heap[E]? = W6.heap[E]? → W.cell? ⟨E, 0, none⟩ = some (.int .i64 qk) ∧ W.cell? ⟨E, 1, none⟩ = some (.int .i64 qf) ∧ W.cell? ⟨E, 2, none⟩ = some (.int .i64 qt) ∧ W.cell? ⟨E, 3, none⟩ = some (.int .i64 qd) ∧ W.cell? ⟨E, 4, none⟩ = some (.int .i64 qn) ∧ W.cell? ⟨E, 5, none⟩ = some (.bool qy)) := Lib.hid fun W hW => by
              have e := hW.trans hrE
              refine ⟨?_, ?_, ?_, ?_, ?_, ?_⟩
              all_goals (rw [cell_of_heap e]; rfl)
            have HKE := Lib.hid hkE; have HRE := Lib.hid hrE; have HLE : Hid (E < W6.heap.size ∧ w5.heap.size = E) := Lib.hid ⟨by omega, hhE⟩
            clear hrE hkE hsE hhE
            have HS6 := Lib.hid (HS5.out.keep HKE.out)
            obtain ⟨e0, e1, e2, e3, e4, e5⟩ := HCE.out W6 rfl
            obtain ⟨g1, o1, rfl, r0, r1, r2, r3, r4, r5⟩ := hrc.out W6 HS6.out
            dsimp only at r0 r1 r2 r3 r4 r5
            go_quiet (fail)
            go_wp2_with fail
            go_roundw
            case rel => exact ⟨j + 1, by omega, by go_num, HS6.out.keep (by first | exact (Keep.refl NoF W6).drewN _ | exact (Keep.refl NoF W6).drew)⟩
            case measure => simp [intOf]; omega
          · have hlt2 : ¬ (j : Int) < n0 := by omega
            go_wp2_with fail
            go_ret
            exact ⟨rfl, HSj.out.world⟩

set_option linter.unusedVariables false
set_option maxRecDepth 100000 in
theorem lifted (os : Os) (started : os.Started) (H : Type) (enc : TypeId × Value → H) :
    ReturnsInHanded {} Tryz.checked os 5 .any (Rows.netAllSpec.pre6 enc Tryz.prog Tryz.f5 Rows.netAllRow.domain false) (Rows.netAllSpec.post enc Tryz.prog Tryz.f5 false true false false) := by
  refine returnsInHanded_of_change (C := Tryz.checked) own started (by kernel_rfl) Tryz.func5
    (ChangeSpec.witness6 (enc := enc) (C := Tryz.checked) false ⟨#[], #[.slice none 0 0], []⟩ 8 (by kernel_rfl) (by kernel_rfl) (by kernel_rfl) (by kernel_rfl)) ?_
  intro W base args ds gs before hval0 hW hcnd _
  have hval : ∀ (j : Nat) t v, Tryz.f5.params[j]? = some t → args[j]? = some v → Value.okWide Tryz.prog W .any base t v := hval0
  have hW' := hW
  obtain ⟨p, q, hA0, hV, rfl, hfz, hnd⟩ := hW
  have hA : DataW.TrodAll enc Tryz.prog W 0 (fun _ => true) true Tryz.f5.params.toList args.toList ds p := hA0
  rw [Tryz.params5] at hA hval
  obtain ⟨v0, vs0, d0, ds0, p0, q0, hargs, rfl, rfl, h0, r0⟩ := trodAll_cons hA
  obtain ⟨rfl, rfl, rfl⟩ := trodAll_nil r0
  obtain rfl : args = #[v0] := by cases args; simp_all
  obtain ⟨rfl, rfl⟩ := trodVars_none hV
  obtain ⟨a0, len0, cap0, rfl⟩ := okWide_slice Tryz.underlying35 (hval 0 35 v0 rfl rfl)
  have k0 := h0
  have lt0 : ∀ x ∈ p0, x.block < W.heap.size := by obtain ⟨m, hm⟩ := k0; exact DataW.trod_lt m _ _ _ hm
  obtain ⟨z0, w0⟩ := open_arg0 W base h0
  clear hA0 hval0
  refine (walk W a0 len0 cap0 z0 w0).mono fun e W' ⟨he, hk⟩ => ?_
  subst he
  have bel := Keep.below hk
  exact ⟨_, rfl, _, _, _, [], _, [], hW', trodAll_mk1 (shut_bool Tryz.underlying4 _), (trodAll_cons_mk (Below.trod laidOut (by kernel_rfl) (of_decide_eq_true (by kernel_rfl)) k0 bel lt0) trodAll_mk0), rfl, bel.frame _, fun h => by cases h⟩

theorem over : Rows.netAllRow.holds Tryz.pinned (OpenSpec.ofChange Rows.netAllSpec) :=
  OpenClaim.holds_of_wide 5 Tryz.f5 rfl rfl rfl rfl rfl rfl rfl ⟨rfl, rfl, rfl, rfl, rfl⟩ rfl rfl rfl rfl rfl (by kernel_rfl) Tryz.func5 (by kernel_rfl)
    (of_decide_eq_true (by kernel_rfl)) (by unfold Func.isWrapper; rw [if_neg (of_decide_eq_false (by kernel_rfl))]; exact ⟨rfl, rfl⟩)
    (fun os started H enc _ => lifted os started H enc)

/-- The statement. -/
theorem proved : Rows.NetAllSaid := over
#print axioms proved
end Go.Proofs.YtlabhbjampkhpaaGreat.netAll
