/- TopQueues: the writer of bytes; seg.sized: six bytes, whatever is framed. -/
import Derived.Test.YtkjdclpneaepkaaGreatEv92
set_option linter.unusedVariables false
open Go Go.RowKit
namespace Go.Proofs.YtkjdclpneaepkaaGreat
theorem infoU8 : (Tryz.prog.info? 5).map (fun i => (i.zero, i.size, i.bytes)) = some (some (.int .u8 0), 1, 1) := by kernel_rfl

/-- A writer at block b with the bytes l; its row's own block is g. -/
def OutV (w : World) (b : Nat) (v : Value) (l : List UInt8) : Prop :=
  w.heap[b]? = some (.cells #[v] 211 (0, 0)) ∧ w.ownsRow 0 5 1 v l.length (bvs l) ∧ v.ownBlock ≠ some b
def OutR (w : World) (b : Nat) (g : Option Nat) (l : List UInt8) : Prop := ∃ v, OutV w b v l ∧ v.ownBlock = g
/-- What a writer may touch. -/
def OF (b : Nat) (g : Option Nat) : Nat → Prop := fun k => k = b ∨ g = some k
/-- A writer's step. -/
def OutS (w : World) (b : Nat) (g : Option Nat) (l : List UInt8) (w' : World) : Prop :=
  ∃ g', OutR w' b g' l ∧ Keep (OF b g) w w' ∧ (g' = g ∨ ∀ k, g' = some k → w.heap.size ≤ k)

theorem OutR.refl {w : World} {b : Nat} {g : Option Nat} {l : List UInt8} (h : OutR w b g l) : OutS w b g l w := ⟨g, h, Keep.refl _ _, .inl rfl⟩


theorem OutS.trans {w w1 w2 : World} {b : Nat} {g g1 : Option Nat} {l2 : List UInt8} (hk : Keep (OF b g) w w1) (hg : g1 = g ∨ ∀ k, g1 = some k → w.heap.size ≤ k) (h : OutS w1 b g1 l2 w2) : OutS w b g l2 w2 := by
  obtain ⟨g2, hr, hk2, hg2⟩ := h
  refine ⟨g2, hr, hk.trans hk2 (fun _ _ h => h) (fun i hi h => ?_), ?_⟩
  · rcases h with h | h
    · exact .inl h
    · rcases hg with rfl | hg
      · exact .inr h
      · have := hg i h; omega
  · rcases hg2 with rfl | hg2
    · exact hg
    · exact .inr fun k hk' => Nat.le_trans hk.size (hg2 k hk')

/-- Behind an append to the bytes and the store of the new row. -/
theorem OutV.put {w wa w1 : World} {b : Nat} {v v' : Value} {l l2 : List UInt8} (h : OutV w b v l) (hk : Keep NoF w wa) (hgr : wa.grownBy w1 v.ownBlock) {m : Nat} (hm : m = l2.length) {xs : List Value} (hx : xs = bvs l2)
    (hown : w1.ownsRow 0 5 1 v' (l.length + m) (bvs l ++ xs)) {z : Nat} (hz : wa.heap.size = z) (ho : v'.ownBlock = v.ownBlock ∨ v'.ownBlock = some z) :
    OutS w b v.ownBlock (l ++ l2) (w1.setCell ⟨b, 0, none⟩ v') := by
  subst hm hx hz
  obtain ⟨hh, ho0, hne⟩ := h
  have hb := lt_of_heap hh
  have hba : b < wa.heap.size := Nat.lt_of_lt_of_le hb hk.size
  have hh1 : w1.heap[b]? = some (.cells #[v] 211 (0, 0)) := by
    rw [hgr.block b hba (fun e => hne e.symm), hk.block b hb (fun f => f)]; exact hh
  have hne' : v'.ownBlock ≠ some b := by
    rcases ho with ho | ho
    · rw [ho]; exact hne
    · rw [ho]; intro e; have e2 : wa.heap.size = b := by injection e
      omega
  refine ⟨v'.ownBlock, ⟨v', ⟨?_, ?_, hne'⟩, rfl⟩, ?_, ?_⟩
  · simp [World.setCell, Array.getElem?_modify, hh1]
  · have h2 : (w1.setCell ⟨b, 0, none⟩ v').ownsRow 0 5 1 v' (l.length + l2.length) (bvs l ++ bvs l2) :=
      hown.kept (row := some b) ⟨rfl, rfl, rfl, by simp [World.setCell], fun k _ hk2 => Below.heap_setCell _ _ _ _ (fun e => hk2 (by rw [e]))⟩ (.inr hne')
    rw [List.length_append, bvs_append]; exact h2
  · refine Keep.setCell ?_ (fun _ => .inl rfl) _
    exact (hk.mono (H := OF b v.ownBlock) (fun _ _ f => f.elim)).grown hgr (fun k _ e => .inr e)
  · rcases ho with ho | ho
    · exact .inl ho
    · refine .inr fun k hk' => ?_
      rw [ho] at hk'
      have e2 : wa.heap.size = k := by injection hk'
      have := hk.size
      omega

/-- The cells of a writer behind such an append. -/
theorem OutV.heap1 {w wa w1 : World} {b : Nat} {v : Value} {l : List UInt8} (h : OutV w b v l) (hk : Keep NoF w wa) (hgr : wa.grownBy w1 v.ownBlock) : w1.heap[b]? = some (.cells #[v] 211 (0, 0)) := by
  obtain ⟨hh, ho0, hne⟩ := h
  have hb := lt_of_heap hh
  rw [hgr.block b (Nat.lt_of_lt_of_le hb hk.size) (fun e => hne e.symm), hk.block b hb (fun f => f)]; exact hh

theorem leBytes_succ (j m : Nat) (hj : 0 < j) : leBytes j m = UInt8.ofNat m :: leBytes (j - 1) (m / 256) := by
  obtain ⟨k, rfl⟩ : ∃ k, j = k + 1 := ⟨j - 1, by omega⟩
  rfl
theorem bval_ofNatQ (m : Nat) : bval (UInt8.ofNat m) = .int .u8 ((m : Int) % 256) := by
  simp [bval, UInt8.toNat_ofNat']

set_option maxHeartbeats 400000 in
theorem wide_any (b : Nat) (g : Option Nat) (l : List UInt8) (n k : Nat) (w : World) (hn : n < 18446744073709551616) (hk : k ≤ 8)
    (h : OutR w b g l) (hl : l.length ≤ 70368744177664) :
    Calls Tryz.prog 216 #[.pointer (some ⟨b, 0, none⟩), .int .u64 n, .int .i64 k] w fun e w' =>
      e = .returned (.tuple #[]) ∧ OutS w b g (l ++ leBytes k n) w' := by
  go_enter Tryz.func216, Tryz.ntmps216
  go_wp2_with fail
  go_loopw [1, 2] (fun nv kv wr => ∃ (j m : Nat) (l1 : List UInt8), j ≤ k ∧ nv = .int .u64 m ∧ m < 18446744073709551616 ∧ kv = .int .i64 j ∧ OutS w b g l1 wr ∧ l1 ++ leBytes j m = l ++ leBytes k n ∧ l1.length + j = l.length + k) (fun _ kv _ => (intOf kv).toNat)
  case atStart => exact ⟨k, n, l, Nat.le_refl _, rfl, hn, rfl, h.refl, rfl, rfl⟩
  case round =>
    obtain ⟨j, m, l1, hj, rfl, hm, rfl, hs, heq, hlen⟩ := hrel
    obtain ⟨g1, ⟨v, hv, rfl⟩, hkp, hg1⟩ := hs
    have Hs := Lib.hid heq; clear heq
    have Hlen := Lib.hid hlen; clear hlen
    have hh := hv.1
    have hc := cell_of_heap hh 0
    simp at hc
    have hf := free_of_heap hh 0
    by_cases hj0 : 0 < j
    · go_wp2_with (at_builtin; refine wpList_app 71 71 5 (.int .u8 0) 1 1 Tryz.underlying71 infoU8 rfl (by decide) (by decide) rfl rfl rfl rfl (hv.2.1.alloc _) (Src.one Tryz.underlying71 (heap_new _ _) rfl 1) ?_ ?_)
      · have := Hlen.out; omega
      intro ao cp w1 hown' hgr hown2
      have hp := hv.put (l2 := [UInt8.ofNat m]) (Keep.alloc (Keep.refl _ _) _) hgr rfl (by simp [bvs, bval_ofNatQ]) hown' (by simp) hown2
      have Hp := Lib.hid hp; clear hp
      have hh1 := hv.heap1 (Keep.alloc (Keep.refl _ _) _) hgr
      have hc1 := cell_of_heap hh1 0
      simp at hc1
      have hf1 := free_of_heap hh1 0
      clear hh hh1 hc hf hgr hown2 hown'
      go_wp2
      go_roundw
      case rel =>
        refine ⟨j - 1, m / 256, l1 ++ [UInt8.ofNat m], by omega, by go_num, by omega, by go_num, OutS.trans hkp hg1 Hp.out, ?_, ?_⟩
        · rw [← Hs.out, leBytes_succ j m hj0]; simp
        · have := Hlen.out; simp; omega
      case measure => simp [intOf]; omega
    · obtain rfl : j = 0 := by omega
      go_wp2
      go_end0
      refine ⟨rfl, _, ⟨v, ?_, rfl⟩, hkp, hg1⟩
      have := Hs.out
      simp [leBytes] at this
      subst this
      exact hv

theorem wide_int (b : Nat) (g : Option Nat) (l : List UInt8) (n k : Int) (w : World) (hn0 : 0 ≤ n) (hn : n ≤ 18446744073709551615) (hk0 : 0 ≤ k) (hk : k ≤ 8)
    (h : OutR w b g l) (hl : l.length ≤ 70368744177664) :
    Calls Tryz.prog 216 #[.pointer (some ⟨b, 0, none⟩), .int .u64 n, .int .i64 k] w fun e w' =>
      e = .returned (.tuple #[]) ∧ OutS w b g (l ++ leBytes k.toNat n.toNat) w' := by
  have := wide_any b g l n.toNat k.toNat w (by omega) (by omega) h hl
  rwa [Int.toNat_of_nonneg hn0, Int.toNat_of_nonneg hk0] at this

/-- What the document writes. -/
def smallB (n : Int) : List UInt8 := leBytes 2 (n % 18446744073709551616).toNat

theorem smallB_length (n : Int) : (smallB n).length = 2 := leBytes_length _ _

set_option maxHeartbeats 400000 in
theorem osmall_any (b : Nat) (g : Option Nat) (l : List UInt8) (n : Int) (w : World)
    (h : OutR w b g l) (hl : l.length ≤ 70368744177664) :
    Calls Tryz.prog 154 #[.pointer (some ⟨b, 0, none⟩), .int .i64 n] w fun e w' =>
      e = .returned (.tuple #[]) ∧ OutS w b g (l ++ smallB n) w' := by
  go_enter Tryz.func154, Tryz.ntmps154
  go_wp2_with fail
  rw [IntKind.wrap_u64]
  refine (wide_int b g l _ _ w (by omega) (by omega) (by omega) (by omega) h hl).mono ?_
  rintro e w' ⟨rfl, hs⟩
  go_wp2
  go_end0
  exact ⟨rfl, hs⟩


/-- A writer of the call's own: nothing that was there in w0 has changed. -/
structure WrI (w0 w : World) (O : Nat) (g : Option Nat) (l : List UInt8) : Prop where
  out : OutR w O g l
  keep : Keep NoF w0 w
  on : w0.heap.size ≤ O
  gn : ∀ k, g = some k → w0.heap.size ≤ k
theorem WrI.start (w : World) : WrI w (w.alloc (.cells #[.slice none 0 0] 211)) w.heap.size none [] :=
  ⟨⟨.slice none 0 0, ⟨heap_new w _, ⟨rfl, .inl ⟨rfl, rfl⟩⟩, nofun⟩, rfl⟩, (Keep.refl NoF w).alloc _, Nat.le_refl _, nofun⟩
theorem WrI.step {w0 w w2 : World} {O : Nat} {g : Option Nat} {l l2 : List UInt8} (h : WrI w0 w O g l) (hs : OutS w O g l2 w2) : ∃ g2, WrI w0 w2 O g2 l2 := by
  obtain ⟨g2, hr, hk, hg⟩ := hs
  refine ⟨g2, hr, h.keep.trans hk (fun _ _ f => f) (fun i hi f => ?_), h.on, fun k hk2 => ?_⟩
  · rcases f with f | f
    · have := h.on; omega
    · have := h.gn i f; omega
  · rcases hg with rfl | hg
    · exact h.gn k hk2
    · have := hg k hk2; have := h.keep.size; omega
theorem WrI.row {w0 w : World} {O : Nat} {g : Option Nat} {l : List UInt8} (h : WrI w0 w O g l) {n : Nat} (hn : l.length = n) (h0 : 0 < n) : ∃ gg cap cur T, w.cell? ⟨O, 0, none⟩ = some (.slice (some ⟨gg, 0, none⟩) n cap) ∧ w0.heap.size ≤ gg ∧ w.heap[gg]? = some (.cells cur T (0, 0)) ∧ n ≤ cap ∧ cur.size = cap ∧ cur.toList.take n = bvs l ∧
    ∀ i (hi : i < l.length), ∃ g' off, (some ⟨gg, 0, none⟩ : Option Addr) = some ⟨g', off, none⟩ ∧ w.cell? ⟨g', off + i, none⟩ = some (bval l[i]) := by
  subst hn
  obtain ⟨v, ⟨hr, hown, hne⟩, hg⟩ := h.out
  have hc : w.cell? ⟨O, 0, none⟩ = some v := by rw [cell_of_heap hr]; rfl
  rcases hown.2 with ⟨rfl, he⟩ | ⟨gg, cap, cur, rfl, hgb, hh, hlc, hcm, hcs, htk⟩
  · omega
  · rw [Nat.mul_one] at hcs htk
    refine ⟨gg, cap, cur, _, hc, h.gn gg (by rw [← hg]; rfl), hh, hlc, hcs, htk, fun i hi => ⟨gg, 0, rfl, ?_⟩⟩
    rw [cell_of_heap hh, Nat.zero_add, ← Array.getElem?_toList, ← List.getElem?_take_of_lt hi, htk]
    simp [bvs, List.getElem?_eq_getElem hi]
set_option maxRecDepth 8000 in
set_option maxHeartbeats 1000000 in
theorem sized_q (ao : Option Addr) (cp n : Nat) (l : List UInt8) (w : World) (hn : l.length = n) (h60 : n ≤ 60000) (hl : ∀ i (h : i < l.length), ∃ g off, ao = some ⟨g, off, none⟩ ∧ w.cell? ⟨g, off + i, none⟩ = some (bval l[i])) :
    Calls Tryz.prog 428 #[.slice ao n cp] w fun e w' => ∃ g cap cur T l2, e = .returned (.slice (some ⟨g, 0, none⟩) 6 cap) ∧ w.heap.size ≤ g ∧ w'.heap[g]? = some (.cells cur T (0, 0)) ∧ 6 ≤ cap ∧ cur.size = cap ∧ cur.toList.take 6 = bvs l2 ∧ l2.length = 6 ∧ Keep NoF w w' := by
  have H0 := Lib.hid (WrI.start w)
  have HL : Hid (∀ W, Keep NoF w W → ∀ i (h : i < l.length), ∃ g off, ao = some ⟨g, off, none⟩ ∧ W.cell? ⟨g, off + i, none⟩ = some (bval l[i])) := Lib.hid fun W hk i hi => by
    obtain ⟨g, off, e1, e2⟩ := hl i hi
    exact ⟨g, off, e1, hk.cell' e2 (fun f => f)⟩
  have HN := Lib.hid hn
  clear hl hn
  go_enter Tryz.func428, Tryz.ntmps428
  go_wp2_with fail
  refine (osmall_any w.heap.size none [] n _ H0.out.out (by simp)).mono ?_
  rintro e w1 ⟨rfl, hs⟩
  rw [List.nil_append] at hs
  obtain ⟨g1, h1⟩ := H0.out.step hs
  obtain ⟨gg1, cap1, cur1, T1, hc1, -, -, -, -, -, hb1⟩ := h1.row (smallB_length _) (by decide)
  have hon := on_bytes 0 (some ⟨gg1, 0, none⟩) cap1 (smallB n) w1 (by decide) (by rw [smallB_length]; omega) hb1
  rw [smallB_length] at hon
  have HON := Lib.hid hon; have H1 := Lib.hid h1
  clear hs h1 hb1 hon H0
  have HOF : Hid (Calls Tryz.prog 241 #[.slice (some ⟨gg1, 0, none⟩) 2 cap1] w1 fun e w' => e = .returned (.int .u32 (crcOn 0 (smallB n))) ∧ w1 = w') := Lib.hid (by
    clear hc1
    go_enter Tryz.func241, Tryz.ntmps241
    go_wp2_with (go_at_call 325; refine HON.out.mono ?_; rintro e w' ⟨rfl, rfl⟩)
    go_ret
    exact ⟨rfl, rfl⟩)
  obtain ⟨s1, hs1⟩ : ∃ s1, crcOn 0 (smallB n) = s1 := ⟨_, rfl⟩
  have hs2 : s1 < 4294967296 := by rw [← hs1]; exact crcOn_lt _ (by decide)
  rw [hs1] at HOF
  have hon2 := on_bytes s1 ao cp l w1 hs2 (by have := HN.out; omega) (HL.out w1 H1.out.keep)
  rw [HN.out] at hon2
  obtain ⟨sm, hsm⟩ : ∃ sm, crcOn s1 l = sm := ⟨_, rfl⟩
  have hsm2 : sm < 4294967296 := by rw [← hsm]; exact crcOn_lt _ hs2
  rw [hsm] at hon2
  have HON2 := Lib.hid hon2
  have e1 : IntKind.i64.wrap (sm : Int) = sm := IntWalk.i64_in _ (by omega)
  clear hon2 hsm hs1 HON
  go_wp2_with fail
  refine HOF.out.mono ?_
  rintro e w' ⟨rfl, rfl⟩
  go_wp2_with fail
  refine HON2.out.mono ?_
  rintro e w' ⟨rfl, rfl⟩
  go_wp2_with fail
  refine (osmall_any w.heap.size g1 (smallB n) sm w1 H1.out.out (by rw [smallB_length]; omega)).mono ?_
  rintro e w2 ⟨rfl, hs⟩
  obtain ⟨g2, h2⟩ := H1.out.step hs
  have H2 := Lib.hid h2
  clear hs h2 hc1 HOF HON2
  go_wp2_with fail
  refine (osmall_any w.heap.size g2 (smallB n ++ smallB sm) ((sm : Int) / 65536) w2 H2.out.out (by simp [smallB_length])).mono ?_
  rintro e w3 ⟨rfl, hs⟩
  obtain ⟨g3, h3⟩ := H2.out.step hs
  have h6 : (smallB n ++ smallB sm ++ smallB ((sm : Int) / 65536)).length = 6 := by simp [smallB_length]
  obtain ⟨gg3, cap3, cur3, T3, hc3, r1, r2, r3, r4, r5, -⟩ := h3.row h6 (by decide)
  have HR := Lib.hid (And.intro r1 (And.intro r2 (And.intro r3 (And.intro r4 (And.intro r5 h6)))))
  have HK := Lib.hid h3.keep
  clear hs h3 r1 r2 r3 r4 r5 h6
  go_wp2_with fail
  go_ret
  obtain ⟨r1, r2, r3, r4, r5, h6⟩ := HR.out
  exact ⟨gg3, cap3, cur3, T3, _, rfl, r1, r2, r3, r4, r5, h6, HK.out⟩
end Go.Proofs.YtkjdclpneaepkaaGreat
