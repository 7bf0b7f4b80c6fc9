/- The writer of bytes: what each of its methods does to its bytes. -/
import Derived.Test.YtdbgplnjppaimaaGreatChecked
import Derived.Test.YtdbgplnjppaimaaGreatBase
import Derived.Test.YtdbgplnjppaimaaGreatBits
open Go Go.RowKit
namespace Go.Proofs.YtdbgplnjppaimaaGreat

theorem infoU8 : (Tryz.prog.info? 5).map (fun i => (i.zero, i.size, i.bytes)) = some (some (.int .u8 0), 1, 1) := by kernel_rfl

/-- A writer at block b with the bytes l; its row's own block is g. -/
def OutV (w : World) (b : Nat) (v : Value) (l : List UInt8) : Prop :=
  w.heap[b]? = some (.cells #[v] 122 (0, 0)) ∧ w.ownsRow 0 5 1 v l.length (bvs l) ∧ v.ownBlock ≠ some b
def OutR (w : World) (b : Nat) (g : Option Nat) (l : List UInt8) : Prop := ∃ v, OutV w b v l ∧ v.ownBlock = g
/-- What a writer may touch. -/
def OF (b : Nat) (g : Option Nat) : Nat → Prop := fun k => k = b ∨ g = some k
/-- A writer's step. -/
def OutS (w : World) (b : Nat) (g : Option Nat) (l : List UInt8) (w' : World) : Prop :=
  ∃ g', OutR w' b g' l ∧ Keep (OF b g) w w' ∧ (g' = g ∨ ∀ k, g' = some k → w.heap.size ≤ k)

theorem OutR.refl {w : World} {b : Nat} {g : Option Nat} {l : List UInt8} (h : OutR w b g l) : OutS w b g l w := ⟨g, h, Keep.refl _ _, .inl rfl⟩


theorem OutS.trans {w w1 w2 : World} {b : Nat} {g g1 : Option Nat} {l2 : List UInt8} (hk : Keep (OF b g) w w1) (hg : g1 = g ∨ ∀ k, g1 = some k → w.heap.size ≤ k) (h : OutS w1 b g1 l2 w2) : OutS w b g l2 w2 := by
  obtain ⟨g2, hr, hk2, hg2⟩ := h
  refine ⟨g2, hr, hk.trans hk2 (fun _ _ h => h) (fun i hi h => ?_), ?_⟩
  · rcases h with h | h
    · exact .inl h
    · rcases hg with rfl | hg
      · exact .inr h
      · have := hg i h; omega
  · rcases hg2 with rfl | hg2
    · exact hg
    · exact .inr fun k hk' => Nat.le_trans hk.size (hg2 k hk')

/-- Behind an append to the bytes and the store of the new row. -/
theorem OutV.put {w wa w1 : World} {b : Nat} {v v' : Value} {l l2 : List UInt8} (h : OutV w b v l) (hk : Keep NoF w wa) (hgr : wa.grownBy w1 v.ownBlock) {m : Nat} (hm : m = l2.length) {xs : List Value} (hx : xs = bvs l2)
    (hown : w1.ownsRow 0 5 1 v' (l.length + m) (bvs l ++ xs)) {z : Nat} (hz : wa.heap.size = z) (ho : v'.ownBlock = v.ownBlock ∨ v'.ownBlock = some z) :
    OutS w b v.ownBlock (l ++ l2) (w1.setCell ⟨b, 0, none⟩ v') := by
  subst hm hx hz
  obtain ⟨hh, ho0, hne⟩ := h
  have hb := lt_of_heap hh
  have hba : b < wa.heap.size := Nat.lt_of_lt_of_le hb hk.size
  have hh1 : w1.heap[b]? = some (.cells #[v] 122 (0, 0)) := by
    rw [hgr.block b hba (fun e => hne e.symm), hk.block b hb (fun f => f)]; exact hh
  have hne' : v'.ownBlock ≠ some b := by
    rcases ho with ho | ho
    · rw [ho]; exact hne
    · rw [ho]; intro e; have e2 : wa.heap.size = b := by injection e
      omega
  refine ⟨v'.ownBlock, ⟨v', ⟨?_, ?_, hne'⟩, rfl⟩, ?_, ?_⟩
  · simp [World.setCell, Array.getElem?_modify, hh1]
  · have h2 : (w1.setCell ⟨b, 0, none⟩ v').ownsRow 0 5 1 v' (l.length + l2.length) (bvs l ++ bvs l2) :=
      hown.kept (row := some b) ⟨rfl, rfl, rfl, by simp [World.setCell], fun k _ hk2 => Below.heap_setCell _ _ _ _ (fun e => hk2 (by rw [e]))⟩ (.inr hne')
    rw [List.length_append, bvs_append]; exact h2
  · refine Keep.setCell ?_ (fun _ => .inl rfl) _
    exact (hk.mono (H := OF b v.ownBlock) (fun _ _ f => f.elim)).grown hgr (fun k _ e => .inr e)
  · rcases ho with ho | ho
    · exact .inl ho
    · refine .inr fun k hk' => ?_
      rw [ho] at hk'
      have e2 : wa.heap.size = k := by injection hk'
      have := hk.size
      omega

/-- The cells of a writer behind such an append. -/
theorem OutV.heap1 {w wa w1 : World} {b : Nat} {v : Value} {l : List UInt8} (h : OutV w b v l) (hk : Keep NoF w wa) (hgr : wa.grownBy w1 v.ownBlock) : w1.heap[b]? = some (.cells #[v] 122 (0, 0)) := by
  obtain ⟨hh, ho0, hne⟩ := h
  have hb := lt_of_heap hh
  rw [hgr.block b (Nat.lt_of_lt_of_le hb hk.size) (fun e => hne e.symm), hk.block b hb (fun f => f)]; exact hh

theorem leBytes_succ (j m : Nat) (hj : 0 < j) : leBytes j m = UInt8.ofNat m :: leBytes (j - 1) (m / 256) := by
  obtain ⟨k, rfl⟩ : ∃ k, j = k + 1 := ⟨j - 1, by omega⟩
  rfl
theorem bval_ofNat (m : Nat) : bval (UInt8.ofNat m) = .int .u8 ((m : Int) % 256) := by
  simp [bval, UInt8.toNat_ofNat']

set_option maxHeartbeats 400000 in
theorem wide_any (b : Nat) (g : Option Nat) (l : List UInt8) (n k : Nat) (w : World) (hn : n < 18446744073709551616) (hk : k ≤ 8)
    (h : OutR w b g l) (hl : l.length ≤ 70368744177664) :
    Calls Tryz.prog 105 #[.pointer (some ⟨b, 0, none⟩), .int .u64 n, .int .i64 k] w fun e w' =>
      e = .returned (.tuple #[]) ∧ OutS w b g (l ++ leBytes k n) w' := by
  go_enter Tryz.func105, Tryz.ntmps105
  go_wp2_with fail
  go_loopw [1, 2] (fun nv kv wr => ∃ (j m : Nat) (l1 : List UInt8), j ≤ k ∧ nv = .int .u64 m ∧ m < 18446744073709551616 ∧ kv = .int .i64 j ∧ OutS w b g l1 wr ∧ l1 ++ leBytes j m = l ++ leBytes k n ∧ l1.length + j = l.length + k) (fun _ kv _ => (intOf kv).toNat)
  case atStart => exact ⟨k, n, l, Nat.le_refl _, rfl, hn, rfl, h.refl, rfl, rfl⟩
  case round =>
    obtain ⟨j, m, l1, hj, rfl, hm, rfl, hs, heq, hlen⟩ := hrel
    obtain ⟨g1, ⟨v, hv, rfl⟩, hkp, hg1⟩ := hs
    have Hs := Lib.hid heq; clear heq
    have Hlen := Lib.hid hlen; clear hlen
    have hh := hv.1
    have hc := cell_of_heap hh 0
    simp at hc
    have hf := free_of_heap hh 0
    by_cases hj0 : 0 < j
    · go_wp2_with (at_builtin; refine wpList_app 26 26 5 (.int .u8 0) 1 1 Tryz.underlying26 infoU8 rfl (by decide) (by decide) rfl rfl rfl rfl (hv.2.1.alloc _) (Src.one Tryz.underlying26 (heap_new _ _) rfl 1) ?_ ?_)
      · have := Hlen.out; omega
      intro ao cp w1 hown' hgr hown2
      have hp := hv.put (l2 := [UInt8.ofNat m]) (Keep.alloc (Keep.refl _ _) _) hgr rfl (by simp [bvs, bval_ofNat]) hown' (by simp) hown2
      have Hp := Lib.hid hp; clear hp
      have hh1 := hv.heap1 (Keep.alloc (Keep.refl _ _) _) hgr
      have hc1 := cell_of_heap hh1 0
      simp at hc1
      have hf1 := free_of_heap hh1 0
      clear hh hh1 hc hf hgr hown2 hown'
      go_wp2
      go_roundw
      case rel =>
        refine ⟨j - 1, m / 256, l1 ++ [UInt8.ofNat m], by omega, by go_num, by omega, by go_num, OutS.trans hkp hg1 Hp.out, ?_, ?_⟩
        · rw [← Hs.out, leBytes_succ j m hj0]; simp
        · have := Hlen.out; simp; omega
      case measure => simp [intOf]; omega
    · obtain rfl : j = 0 := by omega
      go_wp2
      go_end0
      refine ⟨rfl, _, ⟨v, ?_, rfl⟩, hkp, hg1⟩
      have := Hs.out
      simp [leBytes] at this
      subst this
      exact hv

theorem wide_int (b : Nat) (g : Option Nat) (l : List UInt8) (n k : Int) (w : World) (hn0 : 0 ≤ n) (hn : n ≤ 18446744073709551615) (hk0 : 0 ≤ k) (hk : k ≤ 8)
    (h : OutR w b g l) (hl : l.length ≤ 70368744177664) :
    Calls Tryz.prog 105 #[.pointer (some ⟨b, 0, none⟩), .int .u64 n, .int .i64 k] w fun e w' =>
      e = .returned (.tuple #[]) ∧ OutS w b g (l ++ leBytes k.toNat n.toNat) w' := by
  have := wide_any b g l n.toNat k.toNat w (by omega) (by omega) h hl
  rwa [Int.toNat_of_nonneg hn0, Int.toNat_of_nonneg hk0] at this

/-- What the document writes. -/
def smallB (n : Int) : List UInt8 := leBytes 2 (n % 18446744073709551616).toNat
def longB (n : Int) : List UInt8 := leBytes 8 (n % 18446744073709551616).toNat
def truthB (x : Bool) : List UInt8 := leBytes 1 (if x then 1 else 0)
def textB (s : List UInt8) : List UInt8 := smallB ((s.length % 65536 : Nat) : Int) ++ s.take (s.length % 65536)

theorem smallB_length (n : Int) : (smallB n).length = 2 := leBytes_length _ _
theorem longB_length (n : Int) : (longB n).length = 8 := leBytes_length _ _

set_option maxHeartbeats 400000 in
theorem small_any (b : Nat) (g : Option Nat) (l : List UInt8) (n : Int) (w : World)
    (h : OutR w b g l) (hl : l.length ≤ 70368744177664) :
    Calls Tryz.prog 79 #[.pointer (some ⟨b, 0, none⟩), .int .i64 n] w fun e w' =>
      e = .returned (.tuple #[]) ∧ OutS w b g (l ++ smallB n) w' := by
  go_enter Tryz.func79, Tryz.ntmps79
  go_wp2_with fail
  rw [IntKind.wrap_u64]
  refine (wide_int b g l _ _ w (by omega) (by omega) (by omega) (by omega) h hl).mono ?_
  rintro e w' ⟨rfl, hs⟩
  go_wp2
  go_end0
  exact ⟨rfl, hs⟩

set_option maxHeartbeats 400000 in
theorem long_any (b : Nat) (g : Option Nat) (l : List UInt8) (n : Int) (w : World)
    (h : OutR w b g l) (hl : l.length ≤ 70368744177664) :
    Calls Tryz.prog 80 #[.pointer (some ⟨b, 0, none⟩), .int .i64 n] w fun e w' =>
      e = .returned (.tuple #[]) ∧ OutS w b g (l ++ longB n) w' := by
  go_enter Tryz.func80, Tryz.ntmps80
  go_wp2_with fail
  rw [IntKind.wrap_u64]
  refine (wide_int b g l _ _ w (by omega) (by omega) (by omega) (by omega) h hl).mono ?_
  rintro e w' ⟨rfl, hs⟩
  go_wp2
  go_end0
  exact ⟨rfl, hs⟩

set_option maxHeartbeats 400000 in
theorem truth_any (b : Nat) (g : Option Nat) (l : List UInt8) (x : Bool) (w : World)
    (h : OutR w b g l) (hl : l.length ≤ 70368744177664) :
    Calls Tryz.prog 82 #[.pointer (some ⟨b, 0, none⟩), .bool x] w fun e w' =>
      e = .returned (.tuple #[]) ∧ OutS w b g (l ++ truthB x) w' := by
  cases x
  all_goals
    go_enter Tryz.func82, Tryz.ntmps82
    go_wp2_with fail
    refine (wide_int b g l _ _ w (by omega) (by omega) (by omega) (by omega) h hl).mono ?_
    rintro e w' ⟨rfl, hs⟩
    go_wp2
    go_end0
    exact ⟨rfl, hs⟩

set_option maxHeartbeats 400000 in
theorem text_any (b : Nat) (g : Option Nat) (l : List UInt8) (s : ByteArray) (w : World)
    (h : OutR w b g l) (hl : l.length ≤ 35184372088832) (hs : s.size ≤ 140737488351232) :
    Calls Tryz.prog 83 #[.pointer (some ⟨b, 0, none⟩), .string s] w fun e w' =>
      e = .returned (.tuple #[]) ∧ OutS w b g (l ++ textB s.data.toList) w' := by
  go_enter Tryz.func83, Tryz.ntmps83
  obtain ⟨n, hnd⟩ : ∃ n, n = s.size % 65536 := ⟨_, rfl⟩
  have hand : bits .and .i64 (s.size : Int) 65535 = (n : Int) := by rw [and_65535_i64]; omega
  have hn1 : n ≤ s.size := by omega
  have hn3 : n ≤ 65535 := by omega
  have hn2 : (n : Int) ≤ s.size := by omega
  have Hn := Lib.hid hnd; clear hnd
  go_wp2_with fail
  refine (small_any b g l _ _ h (by omega)).mono ?_
  rintro e w' ⟨rfl, g1, ⟨v, hv, rfl⟩, hk, hg⟩
  have hh := hv.1
  have hc := cell_of_heap hh 0
  simp at hc
  have hf := free_of_heap hh 0
  go_wp2_with fail
  have hl2 : (l ++ smallB (n : Int)).length + (s.extract 0 n).size ≤ 70368744177664 := by rw [List.length_append, smallB_length]; simp; omega
  go_region_law (first | (refine step_app 26 9 5 (.int .u8 0) 1 1 Tryz.underlying26 infoU8 rfl (by decide) (by decide) rfl rfl rfl rfl hv.2.1 (Src.ofString _ Tryz.underlying9 _) (by omega) ?_; intro ao cp w1 hown' hgr hown2; have hh1 := hv.heap1 (Keep.drew (Keep.refl _ _)) hgr; have hc1 := cell_of_heap hh1 0; simp at hc1; have hf1 := free_of_heap hh1 0))
  go_wp2
  go_end0
  have e1 : (l ++ smallB (n : Int)).length + (s.extract 0 n).size = l.length + (smallB (n : Int)).length + n := by
    rw [List.length_append]; simp; omega
  rw [← e1]
  have e2 : (s.extract 0 n).data.toList = s.data.toList.take (s.data.toList.length % 65536) := by
    rw [ba_length, ← Hn.out]
    simp [ByteArray.data_extract]
  have hp := hv.put (l2 := (s.extract 0 n).data.toList) (Keep.drew (Keep.refl _ _)) hgr (ba_length _).symm rfl hown' rfl hown2
  have ht : l ++ textB s.data.toList = l ++ smallB (n : Int) ++ (s.extract 0 n).data.toList := by
    rw [e2, textB, ba_length, ← Hn.out]; simp
  rw [ht]
  exact ⟨rfl, OutS.trans hk hg hp⟩

end Go.Proofs.YtdbgplnjppaimaaGreat
