/- TopQueues: the argument; a name out of two bytes; what the law itself remembers (want), beside the world. -/
import Derived.Test.YtkjdclpneaepkaaGreatEv99
set_option linter.unusedVariables false
open Go Go.Ev Go.Proofs Go.RowKit
namespace Go.Proofs.YtkjdclpneaepkaaGreat
/-- A slice of whole numbers that came in. -/
def IsRow (k : IntKind) (w : World) (a : Option Addr) (len cap : Nat) (zs : List Int) : Prop :=
  (a = none ∧ len = 0 ∧ cap = 0 ∧ zs = []) ∨
  ∃ x, a = some x ∧ len ≤ cap ∧ cap ≤ maxLen ∧ zs.length = cap ∧ (∀ i, i < zs.length → w.cell? (x.add i) = some (.int k (zs.getD i 0))) ∧ ∀ n ∈ zs, (Lit.int k n).wf = true
namespace Qu
theorem plain_addr {w : World} {x : Addr} {v : Value} (h : w.cell? (x.add 0) = some v) : x = ⟨x.block, x.off, none⟩ := by
  obtain ⟨b, o, sp⟩ := x
  cases sp with
  | none => rfl
  | some s =>
    simp only [Addr.add, if_true, World.cell?] at h
    split at h
    · simp at h
    · cases h
theorem addr_plain {x : Addr} (hx : x = ⟨x.block, x.off, none⟩) (i : Nat) : x.add i = ⟨x.block, x.off + i, none⟩ := by
  rw [hx]
  by_cases hi0 : i = 0
  · subst hi0; simp [Addr.add]
  · simp [Addr.add, hi0]
theorem open_row {w : World} {a : Option Addr} {len cap : Nat} {zs : List Int} (h : IsRow .i64 w a len cap zs) : ∃ l : List Int, l.length = len ∧ ∀ i (hi : i < l.length), (Lit.int .i64 l[i]).wf = true ∧ ∃ g off, a = some ⟨g, off, none⟩ ∧ w.cell? ⟨g, off + i, none⟩ = some (.int .i64 l[i]) := by
  rcases h with ⟨rfl, rfl, rfl, rfl⟩ | ⟨x, rfl, hl, hm, hz, hc, hw⟩
  · exact ⟨[], rfl, fun i hi => by simp at hi⟩
  · refine ⟨(List.range len).map fun i => zs.getD i 0, by simp, fun i hi => ?_⟩
    have hi : i < len := by simpa using hi
    have hpl := plain_addr (hc 0 (by omega))
    have hv : ((List.range len).map fun i => zs.getD i 0)[i]'(by simpa using hi) = zs.getD i 0 := by simp
    rw [hv]
    refine ⟨hw _ ?_, x.block, x.off, by rw [← hpl], by rw [← addr_plain hpl]; exact hc i (by omega)⟩
    rw [List.getD_eq_getElem?_getD, List.getElem?_eq_getElem (by omega), Option.getD_some]
    exact List.getElem_mem _
/-! ### a name out of two bytes -/
theorem foldl_push_data (l : List UInt8) : ∀ s : ByteArray, ((l.map fun x : UInt8 => (x.toNat : Int)).foldl (fun r n => r.push (UInt8.ofNat n.toNat)) s).data = s.data ++ l.toArray := by
  induction l with
  | nil => intro s; simp
  | cons x l ih => intro s; simp only [List.map_cons, List.foldl_cons]; rw [ih]; simp [ByteArray.push]
theorem conv_q (k : Nat) (hk : k < 8) (W : World) : (convert 71 9 (.slice (some ⟨W.heap.size, 0, none⟩) 2 2)).run Tryz.prog (W.alloc (.cells #[.int .u8 113, .int .u8 (97 + (k : Int))] 5)) = .ok (.string (qn k)) (W.alloc (.cells #[.int .u8 113, .int .u8 (97 + (k : Int))] 5)) := by
  rw [run_convert_bytes_string _ 71 9 5 _ _ _ Tryz.underlying71 Tryz.underlying5 Tryz.underlying9]
  have hb : (UInt8.ofNat (97 + k % 8)).toNat = 97 + k := by rw [UInt8.toNat_ofNat']; omega
  have hfold : ((qnL k).map fun x : UInt8 => (x.toNat : Int)).foldl (fun r n => r.push (UInt8.ofNat n.toNat)) ByteArray.empty = qn k := by
    have := foldl_push_data (qnL k) ByteArray.empty
    cases hf : ((qnL k).map fun x : UInt8 => (x.toNat : Int)).foldl (fun r n => r.push (UInt8.ofNat n.toNat)) ByteArray.empty
    rw [hf] at this
    simp at this
    rw [this]; rfl
  rw [run_bytesToString _ ⟨W.heap.size, 0, none⟩ 2 2 ((qnL k).map fun x : UInt8 => (x.toNat : Int)), hfold]
  have hv : bvs (qnL k) = [.int .u8 113, .int .u8 (97 + (k : Int))] := by
    simp only [bvs, qnL, List.map_cons, List.map_nil, bval, hb]
    rfl
  have := run_loadCells_list (P := Tryz.prog) (w := W.alloc (.cells #[.int .u8 113, .int .u8 (97 + (k : Int))] 5)) ⟨W.heap.size, 0, none⟩ (bvs (qnL k)) (by
    intro j v hj
    rw [hv] at hj
    have : (⟨W.heap.size, 0, none⟩ : Addr).add j = ⟨W.heap.size, j, none⟩ := by
      by_cases q : j = 0
      · subst q; rfl
      · simp [Addr.add, q]
    rw [this, cell_of_heap (heap_new W _)]
    simpa using hj)
  rw [show (bvs (qnL k)).length = 2 by rw [hv]; rfl] at this
  rw [this]
  congr 2
/-! ### what the law remembers -/
structure WB (lo : Nat) (w : World) (gw : Nat) (rl : Nat → Nat) (sp : Nat → Value) (L : Nat → List Nat) : Prop where
  blk : ∃ c, w.heap[gw]? = some (.cells c 70 (0, 0)) ∧ c.size = 8 ∧ ∀ k, k < 8 → c[k]? = some (sp k)
  row : ∀ k, k < 8 → OwnT lo w (sp k) (L k)
  own : ∀ k, k < 8 → ∀ g, (sp k).ownBlock = some g → rl g = k ∧ g ≠ gw
  gl : lo ≤ gw
theorem OwnT.keepF {lo : Nat} {w w' : World} {F : Nat → Prop} {v : Value} {xs : List Nat} (h : OwnT lo w v xs) (k : Keep F w w') (hF : ∀ g, v.ownBlock = some g → ¬ F g) : OwnT lo w' v xs := by
  refine ⟨⟨h.1.1, ?_⟩, h.2⟩
  rcases h.1.2 with ⟨e, he⟩ | ⟨g, cap, cur, e, hgb, hh, q⟩
  · exact .inl ⟨e, he⟩
  · exact .inr ⟨g, cap, cur, e, hgb, (k.block g (lt_of_heap hh) (hF g (by subst e; rfl))).trans hh, q⟩
theorem OwnT.slice {lo : Nat} {w : World} {v : Value} {xs : List Nat} (h : OwnT lo w v xs) : ∃ ao cp, v = .slice ao xs.length cp := by
  rcases h.1.2 with ⟨e, he⟩ | ⟨g, cap, cur, e, hgb, hh, q⟩
  · exact ⟨none, 0, by rw [e, he]⟩
  · exact ⟨_, _, e⟩
theorem WB.keepF {lo : Nat} {w w' : World} {gw : Nat} {rl : Nat → Nat} {sp : Nat → Value} {L : Nat → List Nat} {F : Nat → Prop} (h : WB lo w gw rl sp L) (k : Keep F w w') (h1 : ¬ F gw) (h2 : ∀ j, j < 8 → ∀ g, (sp j).ownBlock = some g → ¬ F g) : WB lo w' gw rl sp L := by
  obtain ⟨⟨c, q1, q2, q3⟩, r, o, gl⟩ := h
  exact ⟨⟨c, (k.block _ (lt_of_heap q1) h1).trans q1, q2, q3⟩, fun j hj => (r j hj).keepF k (h2 j hj), o, gl⟩
theorem WB.at {lo : Nat} {w : World} {gw : Nat} {rl : Nat → Nat} {sp : Nat → Value} {L : Nat → List Nat} (h : WB lo w gw rl sp L) (k : Nat) (hk : k < 8) : ∃ ao cp, sp k = .slice ao (L k).length cp ∧ w.cell? ⟨gw, k, none⟩ = some (.slice ao (L k).length cp) := by
  obtain ⟨⟨c, q1, q2, q3⟩, r, o, gl⟩ := h
  obtain ⟨ao, cp, e⟩ := (r k hk).slice
  exact ⟨ao, cp, e, by rw [cell_of_heap q1, q3 k hk, e]⟩
/-- The world and what the law remembers. -/
def Inv (w0 : World) (v4 : Value) (gw : Nat) (σ : List Bool) (ts : List Nat) (L : Nat → List Nat) (w : World) : Prop :=
  ∃ (G : Nat → Prop) (rl : Nat → Nat) (sp : Nat → Value), St (fun g => g < w0.heap.size ∨ G g) v4 σ ts w ∧ WB w0.heap.size w gw rl sp L ∧ G gw ∧ (∀ k, k < 8 → ∀ g, (sp k).ownBlock = some g → G g) ∧ (∀ g, G g → w0.heap.size ≤ g) ∧ Keep NoF w0 w
theorem Inv.kp {w0 : World} {v4 : Value} {gw : Nat} {σ : List Bool} {ts : List Nat} {L : Nat → List Nat} {w : World} (h : Inv w0 v4 gw σ ts L w) : Keep NoF w0 w := by
  obtain ⟨G, rl, sp, h1, h2, h3, h4, h5, h6⟩ := h
  exact h6
theorem Inv.keep {w0 : World} {v4 : Value} {gw : Nat} {σ : List Bool} {ts : List Nat} {L : Nat → List Nat} {w w' : World} (h : Inv w0 v4 gw σ ts L w) (k : Keep NoF w w') : Inv w0 v4 gw σ ts L w' := by
  obtain ⟨G, rl, sp, h1, h2, h3, h4, h5, h6⟩ := h
  exact ⟨G, rl, sp, (h1.grow k).mono fun g q => .inl q, h2.keepF k (fun f => f) (fun _ _ _ _ f => f), h3, h4, h5, h6.trans' k⟩
theorem Inv.at {w0 : World} {v4 : Value} {gw : Nat} {σ : List Bool} {ts : List Nat} {L : Nat → List Nat} {w : World} (h : Inv w0 v4 gw σ ts L w) (k : Nat) (hk : k < 8) : ∃ ao cp, w.cell? ⟨gw, k, none⟩ = some (.slice ao (L k).length cp) := by
  obtain ⟨G, rl, sp, h1, h2, h3, h4, h5, h6⟩ := h
  obtain ⟨ao, cp, -, e⟩ := h2.at k hk
  exact ⟨ao, cp, e⟩
theorem Inv.row {w0 : World} {v4 : Value} {gw : Nat} {σ : List Bool} {ts : List Nat} {L : Nat → List Nat} {w : World} (h : Inv w0 v4 gw σ ts L w) {k : Nat} (hk : k < 8) {v : Value} (hv : w.cell? ⟨gw, k, none⟩ = some v) : OwnT w0.heap.size w v (L k) ∧ (∀ g, v.ownBlock = some g → g < w.heap.size) := by
  obtain ⟨G, rl, sp, h1, ⟨⟨c, q1, q2, q3⟩, r, o, gl⟩, h3, h4, h5, h6⟩ := h
  rw [cell_of_heap q1, q3 k hk] at hv
  cases hv
  exact ⟨r k hk, (r k hk).lt⟩
theorem Inv.free {w0 : World} {v4 : Value} {gw : Nat} {σ : List Bool} {ts : List Nat} {L : Nat → List Nat} {w : World} (h : Inv w0 v4 gw σ ts L w) (k : Nat) : w.frozen? ⟨gw, k, none⟩ = false := by
  obtain ⟨G, rl, sp, h1, ⟨⟨c, q1, q2, q3⟩, r, o, gl⟩, h3, h4, h5, h6⟩ := h
  exact free_of_heap q1 k
theorem Inv.apart {w0 : World} {v4 : Value} {gw : Nat} {σ : List Bool} {ts : List Nat} {L : Nat → List Nat} {w : World} (h : Inv w0 v4 gw σ ts L w) {k : Nat} (hk : k < 8) {v : Value} (hv : w.cell? ⟨gw, k, none⟩ = some v) : v.ownBlock ≠ some gw := by
  obtain ⟨G, rl, sp, h1, ⟨⟨c, q1, q2, q3⟩, r, o, gl⟩, h3, h4, h5, h6⟩ := h
  rw [cell_of_heap q1, q3 k hk] at hv
  cases hv
  exact fun e => (o k hk gw e).2 rfl
/-- At the law's start. -/
theorem Inv.start {w0 w1 : World} {v4 : Value} {h : Hp} {nx : Pa} {ρ : Ren} {a : AV} (k1 : Keep NoF w0 w1) (eq : cQ 15 (.cn (.i .i64 (.ofNat 1)) .nl) .lf Pa.e = .ok a h nx) (H : HR ρ h nx w1) (hv : V ρ a v4) (hl : ∀ g, Live ρ h g → w0.heap.size ≤ g) :
    Inv w0 v4 w1.heap.size [] [] (fun _ => []) (w1.alloc (.cells #[.slice none 0 0, .slice none 0 0, .slice none 0 0, .slice none 0 0, .slice none 0 0, .slice none 0 0, .slice none 0 0, .slice none 0 0] 70)) := by
  have ka : Keep NoF w1 (w1.alloc (.cells #[.slice none 0 0, .slice none 0 0, .slice none 0 0, .slice none 0 0, .slice none 0 0, .slice none 0 0, .slice none 0 0, .slice none 0 0] 70)) := (Keep.refl NoF w1).alloc _
  have hb := heap_new w1 (.cells #[.slice none 0 0, .slice none 0 0, .slice none 0 0, .slice none 0 0, .slice none 0 0, .slice none 0 0, .slice none 0 0, .slice none 0 0] 70)
  have hs := k1.size
  have hlt := lt_of_heap hb
  refine ⟨fun g => g = w1.heap.size, fun _ => 0, fun _ => .slice none 0 0, ⟨fun g p => ?_, a, [], h, nx, ρ, fun k => ?_, HR.keepN H ka, hv, rfl, fun g o p => ?_⟩, ⟨⟨_, hb, rfl, fun k hk => ?_⟩, fun k hk => ⟨World.ownsRow_nil _ 0 _ _, nofun⟩, fun k hk => nofun, hs⟩, rfl, fun k hk => nofun, fun g e => by rw [e]; exact hs, k1.trans' ka⟩
  · rcases p with p | p
    · omega
    · rw [p]; exact hlt
  · show S0 k = _
    unfold S0
    rw [eq]; rfl
  · have l1 := hl g o
    have l2 := live_lt H o
    rcases p with p | p <;> omega
  · match k, hk with
    | 0, _ => rfl
    | 1, _ => rfl
    | 2, _ => rfl
    | 3, _ => rfl
    | 4, _ => rfl
    | 5, _ => rfl
    | 6, _ => rfl
    | 7, _ => rfl
/-- The law's world: how it begins. -/
theorem new_q (E : AllOk) {w0 w : World} (k0 : Keep NoF w0 w) : Calls Tryz.prog 15 #[.int .i64 1] w fun e w1 => ∃ v4, e = .returned v4 ∧ Inv w0 v4 w1.heap.size [] [] (fun _ => []) (w1.alloc (.cells #[.slice none 0 0, .slice none 0 0, .slice none 0 0, .slice none 0 0, .slice none 0 0, .slice none 0 0, .slice none 0 0, .slice none 0 0] 70)) := by
  have c := E [] trivial
  have c : S0 (chk []) = true := c
  obtain ⟨a, h, nx, e, -⟩ := rvB_ok c
  refine (callQ (vs := [.int .i64 1]) (H00 w) (show Vs (fun _ => none) (.cn (.i .i64 (.ofNat 1)) .nl) [.int .i64 1] from ⟨_, _, rfl, rfl, rfl⟩) e).mono fun x w1 ⟨ρ', v, k1, k2, k3, k4⟩ => ⟨v, k1, Inv.start (k0.trans' (Stp.keepN k4 fun g ⟨id, b, t, q, _⟩ => by rw [getP_lf] at q; cases q)) e k3 k2 fun g o => ?_⟩
  rcases k4.live g o with o | o
  · obtain ⟨id, b, t, q, _⟩ := o
    rw [getP_lf] at q; cases q
  · exact Nat.le_trans k0.size o
/-- A round. -/
theorem round_q (E : AllOk) {w0 wr w : World} {v4 : Value} {gw : Nat} {σ : List Bool} {ts : List Nat} {L : Nat → List Nat} (h : Inv w0 v4 gw σ ts L wr) (k0 : Keep NoF wr w) {gb i : Nat} {T : TypeId} {fz : Nat × Nat} (hi : σ.length = i) (hb0 : wr.heap.size ≤ gb) (hb : w.heap[gb]? = some (.cells #[.string (tx i)] T fz)) {t : Nat} {r : Bool} (hr : roomB ts t = r) (hR : Rch (r :: σ)) :
    Calls Tryz.prog 24 #[v4, .int .i64 1, .string (qn t), .slice (some ⟨gb, 0, none⟩) 1 1] w fun e w' => e = .returned (.bool r) ∧ Inv w0 v4 gw (r :: σ) (add2 r ts t) L w' := by
  obtain ⟨G, rl, sp, h1, h2, h3, h4, h5, h6⟩ := h
  refine (fills_q E h1 k0 hi hb0 hb hr hR).mono fun e w' ⟨e1, e2, e3⟩ => ⟨e1, G, rl, sp, e2, (h2.keepF k0 (fun f => f) (fun _ _ _ _ f => f)).keepF e3 (fun f => f (.inr h3)) (fun j hj g hg f => f (.inr (h4 j hj g hg))), h3, h4, h5, ?_⟩
  exact (h6.trans' k0).trans e3 (fun _ _ f => f) (fun i hi f => f (.inl hi))
theorem St.re {Pr Pr' : Nat → Prop} {v4 : Value} {σ : List Bool} {ts : List Nat} {w w' : World} (s : St Pr v4 σ ts w) (k : Keep Pr w w') (hp : ∀ g, Pr' g → (Pr g ∨ w.heap.size ≤ g) ∧ g < w'.heap.size) : St Pr' v4 σ ts w' := by
  obtain ⟨l, a, ids, h, nx, ρ, q, H, hv, hn, ho⟩ := s
  refine ⟨fun g p => (hp g p).2, a, ids, h, nx, ρ, q, HR.keepL H fun g o => k.block g (live_lt H o) (ho g o), hv, hn, fun g o p => ?_⟩
  rcases (hp g p).1 with q | q
  · exact ho g o q
  · have := live_lt H o; omega
theorem K2' {w0 wr ws w2 : World} {b : Option Nat} (h6 : Keep NoF w0 wr) (hs : Keep NoF wr ws) (hgr : ws.grownBy w2 b) (hb : ∀ g, b = some g → w0.heap.size ≤ g) : Keep NoF w0 w2 :=
  (h6.trans' hs).grown hgr fun g hg e => by have := hb g e; omega
def upL (L : Nat → List Nat) (k x : Nat) : Nat → List Nat := fun j => if j = k then L k ++ [x] else L j
/-- One text more behind a queue's row. -/
theorem Inv.more {w0 wr ws w2 : World} {v4 : Value} {gw : Nat} {σ : List Bool} {ts : List Nat} {L : Nat → List Nat} (h : Inv w0 v4 gw σ ts L wr) {k : Nat} (hk : k < 8) {x n : Nat} {nw : List Value} (hs : Keep NoF wr ws) {v v' : Value} (hc : wr.cell? ⟨gw, k, none⟩ = some v) (hgr : ws.grownBy w2 v.ownBlock) (hn : n = (L k).length + 1) (hw : nw = ((L k).map fun i => Value.string (tx i)) ++ [.string (tx x)])
    (ho : w2.ownsRow 0 9 1 v' n nw) (hb : v'.ownBlock = v.ownBlock ∨ v'.ownBlock = some ws.heap.size) : Inv w0 v4 gw σ ts (upL L k x) (w2.setCell ⟨gw, k, none⟩ v') := by
  obtain ⟨G, rl, sp, h1, ⟨⟨c, q1, q2, q3⟩, r, o, gl⟩, h3, h4, h5, h6⟩ := h
  rw [cell_of_heap q1, q3 k hk] at hc
  cases hc
  have hss := hs.size
  have hs2 := hgr.size
  have hs3 : (w2.setCell ⟨gw, k, none⟩ v').heap.size = w2.heap.size := by simp [World.setCell]
  have hgwl := lt_of_heap q1
  have hkown : ∀ g, (sp k).ownBlock = some g → G g ∧ rl g = k ∧ g ≠ gw ∧ g < wr.heap.size := fun g e => ⟨h4 k hk g e, (o k hk g e).1, (o k hk g e).2, (r k hk).lt g e⟩
  have h2w : w2.heap[gw]? = some (.cells c 70 (0, 0)) := by
    rw [hgr.block gw (by omega) (fun e => (hkown gw e.symm).2.2.1 rfl), hs.block gw hgwl (fun f => f)]; exact q1
  have K2 : Keep (fun g => (sp k).ownBlock = some g) wr w2 := (hs.mono (fun _ _ f => f.elim)).grown hgr (fun g _ e => e)
  have K3 : Keep (fun g => g = gw) w2 (w2.setCell ⟨gw, k, none⟩ v') := Keep.setCell (p := ⟨gw, k, none⟩) (Keep.refl (fun g => g = gw) w2) (fun _ => rfl) v'
  have vb : ∀ g, v'.ownBlock = some g → ((sp k).ownBlock = some g) ∨ g = ws.heap.size := fun g e => by
    rcases hb with q | q
    · rw [q] at e; exact .inl e
    · rw [q] at e; injection e with e; exact .inr e.symm
  have hrow2 := (r k hk).more hs (by have := h6.size; omega) hn hw ho hb
  refine ⟨fun g => G g ∨ (wr.heap.size ≤ g ∧ g < w2.heap.size), fun g => if g < wr.heap.size then rl g else k, fun j => if j = k then v' else sp j, ?_, ⟨⟨c.setIfInBounds k v', ?_, by simp [q2], fun j hj => ?_⟩, fun j hj => ?_, fun j hj g hg => ?_, gl⟩, .inl h3, fun j hj g hg => ?_, fun g q => ?_, ?_⟩
  · refine h1.re ⟨K3.os.trans K2.os, K3.tape.trans K2.tape, K3.output.trans K2.output, by rw [hs3]; exact K2.size, fun g hg hp => ?_⟩ fun g p => ?_
    · have n1 : g ≠ gw := fun e => hp (.inr (by rw [e]; exact h3))
      have n2 : ¬ (sp k).ownBlock = some g := fun e => hp (.inr (hkown g e).1)
      exact (K3.block g (Nat.lt_of_lt_of_le hg K2.size) n1).trans (K2.block g hg n2)
    · rw [hs3]
      rcases p with p | p | p
      · exact ⟨.inl (.inl p), by have := h1.lt g (.inl p); omega⟩
      · exact ⟨.inl (.inr p), by have := h1.lt g (.inr p); omega⟩
      · exact ⟨.inr p.1, p.2⟩
  · simp [World.setCell, Array.getElem?_modify, h2w]
  · by_cases e : j = k
    · subst e; simp [q2, hk]
    · rw [Array.getElem?_setIfInBounds_ne (fun q => e q.symm), q3 j hj, if_neg e]
  · by_cases e : j = k
    · subst e
      have e1 : upL L j x j = L j ++ [x] := if_pos rfl
      rw [e1]
      simp only [if_true]
      exact hrow2.keepF K3 fun g hg e2 => by
        rcases vb g hg with q | q
        · exact (hkown g q).2.2.1 e2
        · omega
    · have e1 : upL L k x j = L j := if_neg e
      rw [e1, if_neg e]
      exact ((r j hj).keepF K2 fun g hg e2 => by
        have := (o j hj g hg).1
        have := (hkown g e2).2.1
        omega).keepF K3 fun g hg e2 => (o j hj g hg).2 e2
  · by_cases e : j = k
    · simp only [if_pos e] at hg
      rcases vb g hg with q | q
      · have := hkown g q
        exact ⟨by rw [if_pos this.2.2.2, this.2.1, e], this.2.2.1⟩
      · exact ⟨by rw [if_neg (by omega), e], by omega⟩
    · simp only [if_neg e] at hg
      have := (r j hj).lt g hg
      exact ⟨by rw [if_pos this]; exact (o j hj g hg).1, (o j hj g hg).2⟩
  · by_cases e : j = k
    · simp only [if_pos e] at hg
      rcases vb g hg with q | q
      · exact .inl (hkown g q).1
      · refine .inr ⟨by omega, ?_⟩
        rw [q] at hg
        have := (show OwnT w0.heap.size w2 v' (L k ++ [x]) from hrow2).lt _ hg
        omega
    · simp only [if_neg e] at hg
      exact .inl (h4 j hj g hg)
  · rcases q with q | q
    · exact h5 g q
    · have := h6.size; omega
  · refine (K2' h6 hs hgr fun g e => h5 g (hkown g e).1).trans K3 (fun _ _ f => f) (fun i hi f => ?_)
    omega
end Qu
end Go.Proofs.YtkjdclpneaepkaaGreat
