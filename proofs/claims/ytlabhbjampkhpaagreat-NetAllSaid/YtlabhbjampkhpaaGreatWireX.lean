/- wire's seal: the sum of bytes behind them. wire's writer: a packet's bytes. A packet's bytes, read: plain. wire's reader. -/
import Derived.Test.YtlabhbjampkhpaaGreatRows1
import Derived.Test.YtlabhbjampkhpaaGreatSum
import Derived.Test.YtlabhbjampkhpaaGreatPack
import Derived.Test.YtlabhbjampkhpaaGreatEnc
import Derived.Test.YtlabhbjampkhpaaGreatRound
import Derived.Test.YtlabhbjampkhpaaGreatDec
import Derived.Test.YtlabhbjampkhpaaGreatEqR
section
open Go Go.RowKit
namespace Go.Proofs.YtlabhbjampkhpaaGreat
def sealB (l : List UInt8) : List UInt8 := (l ++ smallB (crcOf l)) ++ smallB ((crcOf l : Int) / 65536)
theorem sealB_length (l : List UInt8) : (sealB l).length = l.length + 4 := by simp [sealB, smallB_length]

theorem sof_at (ao : Option Addr) (n cp : Nat) (l : List UInt8) (w : World) (hl : SlB w ao cp l) (hn : l.length = n) :
    Calls Tryz.prog 55 #[.slice ao n cp] w fun e w' => e = .returned (.int .u32 (crcOf l)) ∧ w = w' := by
  subst hn; exact of_any ao cp l w hl

set_option maxHeartbeats 1000000 in
theorem sealed_any (v : Value) (l : List UInt8) (n : Nat) (w : World) (h : OwnB w v l) (hn : l.length = n) (hl : n ≤ 1000) :
    Calls Tryz.prog 33 #[v] w fun e w' => ∃ v', e = .returned v' ∧ OwnB w' v' (sealB l) ∧ Keep (fun k => v.ownBlock = some k) w w' ∧ (v'.ownBlock = v.ownBlock ∨ ∀ k, v'.ownBlock = some k → w.heap.size ≤ k) := by
  have hlt := h.lt
  obtain ⟨ao, cp, rfl, hs, hb⟩ := h.slb
  rw [hn]
  rw [hn] at h hlt hb
  have HO0 : Hid (OutR (w.alloc (.cells #[.slice ao n cp] 55 (0, 0))) w.heap.size (blockOf ao) l) := Lib.hid ⟨.slice ao n cp, ⟨heap_new _ _, h.keep ((Keep.refl NoF w).alloc _) (fun _ _ f => f), fun e => by have := hlt _ e; omega⟩, hb.symm⟩
  have HS := Lib.hid (hs.keep ((Keep.refl NoF w).alloc (.cells #[.slice ao n cp] 55 (0, 0))) (fun _ _ f => f))
  have HB := Lib.hid hb
  have HN := Lib.hid hn
  have HLT : Hid (∀ k, blockOf ao = some k → k < w.heap.size) := Lib.hid (by rw [hb]; exact hlt)
  have K0 := Lib.hid ((Keep.refl (fun k => blockOf ao = some k) w).alloc (.cells #[.slice ao n cp] 55 (0, 0)))
  clear hs hb h hlt hn
  go_enter Tryz.func33, Tryz.ntmps33
  go_wp2_with fail
  refine (sof_at ao n cp l _ HS.out HN.out).mono ?_
  rintro e w1 ⟨rfl, rfl⟩
  obtain ⟨c, hc⟩ : ∃ c, crcOf l = c := ⟨_, rfl⟩
  have HC := Lib.hid hc
  have hb := crcOf_lt l
  rw [hc] at hb ⊢
  clear hc
  have hc0 : 0 ≤ (c : Int) := by omega
  have hc1 : (c : Int) < 4294967296 := by omega
  go_wp2_with fail
  refine (small_any w.heap.size _ l (c : Int) _ HO0.out (by have := HN.out; omega)).mono ?_
  rintro e w2 ⟨rfl, g2, hr2, hk2, hg2⟩
  have HR2 := Lib.hid hr2
  have HOS2 := Lib.hid (And.intro hk2 hg2)
  clear hr2 hk2 hg2
  go_wp2_with fail
  refine (small_any w.heap.size g2 (l ++ smallB c) ((c : Int) / 65536) _ HR2.out (by simp [smallB_length]; have := HN.out; omega)).mono ?_
  rintro e w3 ⟨rfl, hs3⟩
  obtain ⟨g3, hr3, hk3, hg3⟩ := OutS.trans HOS2.out.1 HOS2.out.2 hs3
  obtain ⟨v, hv, hvg⟩ := hr3
  have cv := cell_of_heap hv.1 0
  have cv2 : w3.cell? ⟨w.heap.size, 0, none⟩ = some v := by rw [cv]; rfl
  have HV := Lib.hid hv; have HG := Lib.hid hvg; have HK3 := Lib.hid hk3; have HG3 := Lib.hid hg3
  clear hv cv hvg hk3 hg3 hs3 hc0 hc1 hb
  go_wp2_with fail
  go_ret
  refine ⟨v, rfl, ?_, ?_, ?_⟩
  · have e : sealB l = l ++ smallB c ++ smallB ((c : Int) / 65536) := by unfold sealB; rw [HC.out]
    rw [e]; exact HV.out.2.1
  · rw [← HB.out]
    exact K0.out.trans HK3.out (fun _ _ f => f) (fun i hi f => f.elim (fun f => by omega) (fun f => f))
  · rw [← HB.out, HG.out]
    rcases HG3.out with f | f
    · exact .inl f
    · exact .inr (fun k hk => by have := f k hk; have := K0.out.size; omega)
end Go.Proofs.YtlabhbjampkhpaaGreat
end

section
open Go Go.RowKit
namespace Go.Proofs.YtlabhbjampkhpaaGreat
def pkB (p : PackV) : List UInt8 := ((((([] ++ smallB p.kind) ++ smallB p.from_) ++ smallB p.to) ++ longB p.tid) ++ smallB p.n) ++ truthB p.yes
theorem pkB_length (p : PackV) : (pkB p).length = 17 := by simp [pkB, smallB_length, longB_length, truthB_length]
def wireB (p : PackV) : List UInt8 := sealB (pkB p)
theorem wireB_length (p : PackV) : (wireB p).length = 21 := by rw [wireB, sealB_length, pkB_length]
def pkCells (p : PackV) : Array Value := #[.int .i64 p.kind, .int .i64 p.from_, .int .i64 p.to, .int .i64 p.tid, .int .i64 p.n, .bool p.yes]

set_option maxHeartbeats 1000000 in
theorem wenc_bad (p : PackV) (w : World) (hp : p.Ok) (hb : packB p = false) :
    Calls Tryz.prog 15 #[packVal p] w fun e w' => e = .returned (.slice none 0 0) ∧ Keep NoF w w' := by
  have hc := fun W => kpacket_any p W hp
  rw [hb] at hc
  obtain ⟨k, f, t, d, n, y⟩ := p
  unfold packVal at hc ⊢
  simp only at hc ⊢
  have HC := Lib.hid hc
  clear hc hp hb
  go_enter Tryz.func15, Tryz.ntmps15
  go_wp2_with fail
  refine (HC.out _).mono ?_
  rintro e w1 ⟨rfl, hk1⟩
  have K1 := Lib.hid ((keep_alloc w _).trans' hk1); clear hk1
  go_wp2_with fail
  go_ret
  exact ⟨rfl, K1.out⟩

set_option maxHeartbeats 2000000 in
theorem wenc_ok (p : PackV) (w : World) (hp : p.Ok) (hb : packB p = true) :
    Calls Tryz.prog 15 #[packVal p] w fun e w' => ∃ v, e = .returned v ∧ OwnB w' v (wireB p) ∧ Keep NoF w w' ∧ ∀ k, v.ownBlock = some k → w.heap.size ≤ k := by
  have hc := fun W => kpacket_any p W hp
  rw [hb] at hc
  obtain ⟨k, f, t, d, n, y⟩ := p
  unfold packVal at hc ⊢
  simp only at hc ⊢
  have HC := Lib.hid hc
  have HP := Lib.hid hp
  clear hc hp hb
  go_enter Tryz.func15, Tryz.ntmps15
  go_wp2_with fail
  refine (HC.out _).mono ?_
  rintro e w1 ⟨rfl, hk1⟩
  have K1 := Lib.hid ((keep_alloc w _).trans' hk1)
  have CS : Hid (∀ W, Keep NoF w1 W → W.cell? ⟨w.heap.size, 0, none⟩ = some (.int .i64 k) ∧ W.cell? ⟨w.heap.size, 1, none⟩ = some (.int .i64 f) ∧ W.cell? ⟨w.heap.size, 2, none⟩ = some (.int .i64 t) ∧
      W.cell? ⟨w.heap.size, 3, none⟩ = some (.int .i64 d) ∧ W.cell? ⟨w.heap.size, 4, none⟩ = some (.int .i64 n) ∧ W.cell? ⟨w.heap.size, 5, none⟩ = some (.bool y)) := by
    intro W hW
    refine ⟨hW.cell' (hk1.cell' ?_ (fun f => f)) (fun f => f), hW.cell' (hk1.cell' ?_ (fun f => f)) (fun f => f), hW.cell' (hk1.cell' ?_ (fun f => f)) (fun f => f), hW.cell' (hk1.cell' ?_ (fun f => f)) (fun f => f), hW.cell' (hk1.cell' ?_ (fun f => f)) (fun f => f), hW.cell' (hk1.cell' ?_ (fun f => f)) (fun f => f)⟩
    all_goals (rw [cell_of_heap (heap_new _ _)]; rfl)
  have HI1 := Lib.hid (WrI.start w1)
  have d0 := (CS.out _ HI1.out.keep).1
  clear hk1
  go_wp2_with fail
  obtain ⟨O, hO⟩ : ∃ O, w1.heap.size = O := ⟨_, rfl⟩
  rw [hO] at HI1 ⊢
  clear hO
  refine (small_any O none [] k _ HI1.out.out (by simp)).mono ?_
  rintro e w3 ⟨rfl, hs⟩
  obtain ⟨g3, hI3⟩ := HI1.out.step hs
  have HI3 := Lib.hid hI3; clear hs hI3 d0 HI1
  have d1 := (CS.out _ HI3.out.keep).2.1
  go_wp2_with fail
  refine (small_any O g3 _ f _ HI3.out.out (by simp [smallB_length])).mono ?_
  rintro e w4 ⟨rfl, hs⟩
  obtain ⟨g4, hI4⟩ := HI3.out.step hs
  have HI4 := Lib.hid hI4; clear hs hI4 d1 HI3
  have d2 := (CS.out _ HI4.out.keep).2.2.1
  go_wp2_with fail
  refine (small_any O g4 _ t _ HI4.out.out (by simp [smallB_length])).mono ?_
  rintro e w5 ⟨rfl, hs⟩
  obtain ⟨g5, hI5⟩ := HI4.out.step hs
  have HI5 := Lib.hid hI5; clear hs hI5 d2 HI4
  have d3 := (CS.out _ HI5.out.keep).2.2.2.1
  go_wp2_with fail
  refine (long_any O g5 _ d _ HI5.out.out (by simp [smallB_length])).mono ?_
  rintro e w6 ⟨rfl, hs⟩
  obtain ⟨g6, hI6⟩ := HI5.out.step hs
  have HI6 := Lib.hid hI6; clear hs hI6 d3 HI5
  have d4 := (CS.out _ HI6.out.keep).2.2.2.2.1
  go_wp2_with fail
  refine (small_any O g6 _ n _ HI6.out.out (by simp [smallB_length, longB_length])).mono ?_
  rintro e w7 ⟨rfl, hs⟩
  obtain ⟨g7, hI7⟩ := HI6.out.step hs
  have HI7 := Lib.hid hI7; clear hs hI7 d4 HI6
  have d5 := (CS.out _ HI7.out.keep).2.2.2.2.2
  go_wp2_with fail
  refine (truth_any O g7 _ y _ HI7.out.out (by simp [smallB_length, longB_length])).mono ?_
  rintro e w8 ⟨rfl, hs⟩
  obtain ⟨g8, hI8⟩ := HI7.out.step hs
  have hI8' : WrI w1 w8 O g8 (pkB ⟨k, f, t, d, n, y⟩) := hI8
  have HI8 := Lib.hid hI8'; clear hs hI8 hI8' d5 HI7
  obtain ⟨v, hv, hvg⟩ := HI8.out.out
  have cv := cell_of_heap hv.1 0
  have cv2 : w8.cell? ⟨O, 0, none⟩ = some v := by rw [cv]; rfl
  have HV := Lib.hid hv; have HG := Lib.hid hvg
  clear hv cv hvg
  go_wp2_with fail
  refine (sealed_any v (pkB ⟨k, f, t, d, n, y⟩) 17 w8 HV.out.2.1 (pkB_length _) (by decide)).mono ?_
  rintro e w9 ⟨v9, rfl, ho9, hk9, hg9⟩
  have HO9 := Lib.hid ho9
  have K9 : Hid (Keep NoF w w9) := Lib.hid ((K1.out.trans' HI8.out.keep).trans hk9 (fun _ _ f => f) (fun i hi e => by
    have := HI8.out.gn i (by rw [← HG.out]; exact e); have := K1.out.size; omega))
  have HG9 : Hid (∀ k, v9.ownBlock = some k → w.heap.size ≤ k) := Lib.hid (fun k hk => by
    rcases hg9 with f | f
    · have := HI8.out.gn k (by rw [← HG.out, ← f]; exact hk); have := K1.out.size; omega
    · have := f k hk; have := K1.out.size; have := HI8.out.keep.size; omega)
  clear ho9 hk9 hg9
  go_wp2_with fail
  go_ret
  exact ⟨v9, rfl, HO9.out, K9.out, HG9.out⟩
end Go.Proofs.YtlabhbjampkhpaaGreat
end

section
open Go Go.RowKit
namespace Go.Proofs.YtlabhbjampkhpaaGreat
/-- What a reader of a packet's parts sees. -/
def s1 (l : List UInt8) : Option (List UInt8) := rdS 2 (some l)
def s2 (l : List UInt8) : Option (List UInt8) := rdS 2 (s1 l)
def s3 (l : List UInt8) : Option (List UInt8) := rdS 2 (s2 l)
def s4 (l : List UInt8) : Option (List UInt8) := rdS 8 (s3 l)
def s5 (l : List UInt8) : Option (List UInt8) := rdS 2 (s4 l)
def s6 (l : List UInt8) : Option (List UInt8) := rdTr (s5 l)
def rdP (l : List UInt8) : PackV := ⟨(rdN 2 (some l) : Nat), (rdN 2 (s1 l) : Nat), (rdN 2 (s2 l) : Nat), wrap64 (rdN 8 (s3 l) : Nat), (rdN 2 (s4 l) : Nat), decide (rdN 1 (s5 l) = 1)⟩
def bodyOf (l : List UInt8) : List UInt8 := l.take (l.length - 4)
def decW (l : List UInt8) : Bool := decide (4 ≤ l.length) && (endOf (s6 (bodyOf l)) && (packB (rdP (bodyOf l)) && decide (wireB (rdP (bodyOf l)) = l)))
def PackV.zero : PackV := ⟨0, 0, 0, 0, 0, false⟩
def decPk (l : List UInt8) : PackV := if decW l then rdP (bodyOf l) else PackV.zero
theorem rdN_in (k : Nat) (st : Option (List UInt8)) (hk : k ≤ 7) : In64 (rdN k st : Nat) := by
  have h := rdN_lt k st
  have h2 : 256 ^ k ≤ 256 ^ 7 := Nat.pow_le_pow_right (by decide) hk
  have h3 : (256 : Nat) ^ 7 = 72057594037927936 := by decide
  unfold In64; omega
theorem wrap64_in (n : Int) : In64 (wrap64 n) := by unfold In64 wrap64; omega
theorem rdP_ok (l : List UInt8) : (rdP l).Ok := ⟨rdN_in _ _ (by decide), rdN_in _ _ (by decide), rdN_in _ _ (by decide), wrap64_in _, rdN_in _ _ (by decide)⟩
theorem zero_ok : PackV.zero.Ok := by unfold PackV.zero PackV.Ok In64; simp
theorem packB_bounds {p : PackV} (h : packB p = true) : (1 ≤ p.kind ∧ p.kind ≤ 5) ∧ (1 ≤ p.from_ ∧ p.from_ ≤ 8) ∧ (1 ≤ p.to ∧ p.to ≤ 8) ∧ tidB p.tid = true ∧ (0 ≤ p.n ∧ p.n ≤ 10) := by
  unfold packB at h
  simp only [Bool.and_eq_true, decide_eq_true_eq] at h
  obtain ⟨⟨⟨⟨⟨⟨h1, h2⟩, h3⟩, h4⟩, h5⟩, h6⟩, h7⟩ := h
  unfold brokerB at h3 h4
  simp at h3 h4
  refine ⟨⟨h1, h2⟩, by omega, by omega, h5, ?_⟩
  split at h6 <;> simp at h6 <;> omega
theorem pk_read (p : PackV) (hp : p.Ok) (hb : packB p = true) : rdP (pkB p) = p ∧ s6 (pkB p) = some [] := by
  obtain ⟨⟨a1, a2⟩, ⟨b1, b2⟩, ⟨c1, c2⟩, _, ⟨e1, e2⟩⟩ := packB_bounds hb
  obtain ⟨k, f, t, d, n, y⟩ := p
  have hd := hp.2.2.2.1
  unfold In64 at hd
  simp only at a1 a2 b1 b2 c1 c2 e1 e2 hd
  have e : pkB ⟨k, f, t, d, n, y⟩ = smallB k ++ (smallB f ++ (smallB t ++ (longB d ++ (smallB n ++ (truthB y ++ []))))) := by simp [pkB]
  rw [e]
  have r1 := rd_small k (smallB f ++ (smallB t ++ (longB d ++ (smallB n ++ (truthB y ++ [])))))
  have r2 := rd_small f (smallB t ++ (longB d ++ (smallB n ++ (truthB y ++ []))))
  have r3 := rd_small t (longB d ++ (smallB n ++ (truthB y ++ [])))
  have r4 := rd_long d hd (smallB n ++ (truthB y ++ []))
  have r5 := rd_small n (truthB y ++ [])
  have r6 := rd_truth y []
  unfold rdP s6 s5 s4 s3 s2 s1
  rw [r1.1, r1.2, r2.1, r2.2, r3.1, r3.2, r4.1, r4.2, r5.1, r5.2, r6.1, r6.2]
  refine ⟨?_, rfl⟩
  congr 1 <;> omega
theorem body_wire (p : PackV) : bodyOf (wireB p) = pkB p := by
  unfold bodyOf
  rw [wireB_length]
  show (wireB p).take 17 = pkB p
  unfold wireB sealB
  rw [List.append_assoc, List.take_append_of_le_length (by rw [pkB_length]; omega), List.take_of_length_le (by rw [pkB_length]; omega)]
theorem dec_wire (p : PackV) (hp : p.Ok) (hb : packB p = true) : decW (wireB p) = true ∧ decPk (wireB p) = p := by
  obtain ⟨h1, h2⟩ := pk_read p hp hb
  have h : decW (wireB p) = true := by
    unfold decW
    rw [body_wire, h1, h2, wireB_length, hb]
    simp [endOf]
  refine ⟨h, ?_⟩
  unfold decPk
  rw [h, body_wire, h1]; rfl
theorem dec_is {l : List UInt8} (h : decW l = true) : packB (decPk l) = true ∧ wireB (decPk l) = l ∧ (decPk l).Ok := by
  have h0 := h
  unfold decW at h
  simp only [Bool.and_eq_true, decide_eq_true_eq] at h
  unfold decPk
  rw [h0]
  exact ⟨h.2.2.1, h.2.2.2, rdP_ok _⟩
theorem decPk_ok (l : List UInt8) : (decPk l).Ok := by
  unfold decPk; split
  · exact rdP_ok _
  · exact zero_ok
theorem wireB_inj {p q : PackV} (hp : p.Ok) (hq : q.Ok) (h1 : packB p = true) (h2 : packB q = true) (h : wireB p = wireB q) : p = q := by
  rw [← (dec_wire p hp h1).2, h, (dec_wire q hq h2).2]
theorem decPk_bad {l : List UInt8} (h : decW l = false) : decPk l = PackV.zero := by unfold decPk; rw [h]; rfl
end Go.Proofs.YtlabhbjampkhpaaGreat
end

section
open Go Go.RowKit
namespace Go.Proofs.YtlabhbjampkhpaaGreat
theorem results_pk {fn : Func} {p u : Tmp} (h : fn.results = #[.cell p 23, .tmp u]) (tmps : Array Value) (w : World) (Z : Nat) (cs : Array Value) (T : TypeId) (fr : Nat × Nat)
    (hp : tmps.getD p undef = .pointer (some ⟨Z, 0, none⟩)) (hg : w.heap[Z]? = some (.cells cs T fr)) (hs : cs.size = 6) :
    (results fn tmps).run Tryz.prog w = .ok (.tuple #[.agg cs, tmps.getD u undef]) w := by
  rw [results_cell_tmp h, hp]
  have hi : (Tryz.prog.info? 23).map (·.size) = some cs.size := by rw [hs]; kernel_rfl
  have hl := run_loadVar_row (P := Tryz.prog) w Z T 23 cs fr _ hg Tryz.underlying23 rfl hi
  simp [asAddr, Result.andThen, hl]
theorem conv_at {w : World} {ao : Option Addr} {cp : Nat} {l : List UInt8} {n : Nat} (h : SlB w ao cp l) (hn : l.length = n) :
    (convert 24 9 (.slice ao n cp)).run Tryz.prog w = .ok (.string (bstr l)) w := by
  subst hn
  exact run_convert_SlB h Tryz.underlying24 Tryz.underlying5 Tryz.underlying9
theorem wread_at (ao : Option Addr) (cp : Nat) (l : List UInt8) (n : Nat) (w : World) (h : SlB w ao cp l) (hn : l.length = n) (hb : ∀ g, blockOf ao = some g → g < w.heap.size) (z : Nat) (hz : w.heap.size = z) :
    Calls Tryz.prog 36 #[.slice ao n cp] w fun e w' => e = .returned (.pointer (some ⟨z, 0, none⟩)) ∧ InR w' z (blockOf ao) (some l) ∧ Keep NoF w w' := by
  subst hn; exact read_at ao cp l w h hb z hz
def pkC (k f t d n : Int) (y : Bool) : Array Value := #[.int .i64 k, .int .i64 f, .int .i64 t, .int .i64 d, .int .i64 n, .bool y]
/-- A reader at P, the result's block Z. -/
structure WDI (w wr : World) (Z P : Nat) (g : Option Nat) (st : Option (List UInt8)) : Prop where
  rd : InR wr P g st
  res : wr.heap[Z]? = some (.cells (pkC 0 0 0 0 0 false) 23 (0, 0))
  keep : Keep NoF w wr
  zn : w.heap.size ≤ Z
  zp : Z < P
theorem WDI.step {w wr w2 : World} {Z P : Nat} {g : Option Nat} {st st2 : Option (List UInt8)} (h : WDI w wr Z P g st) (hs : InS wr P g st2 w2) : WDI w w2 Z P g st2 :=
  ⟨hs.1, by rw [hs.2.block Z (lt_of_heap h.res) (fun e => by have := h.zp; omega)]; exact h.res, h.keep.trans hs.2 (fun _ _ f => f) (fun i hi e => by have := h.zn; have := h.zp; omega), h.zn, h.zp⟩
theorem in_lt {w : World} {p : Nat} {g : Option Nat} {st : Option (List UInt8)} (h : InR w p g st) : p < w.heap.size := by
  obtain ⟨_, _, _, _, ⟨h1, _⟩, _⟩ := h
  exact lt_of_heap h1
def WDecPost (w : World) (l : List UInt8) (e : Ending) (w' : World) : Prop :=
  e = .returned (.tuple #[packVal (decPk l), .int .i64 (if decW l then 0 else 1)]) ∧ Keep NoF w w'
theorem pk_set {w w0 : World} {Z : Nat} (h : w.heap[Z]? = some (.cells (pkC 0 0 0 0 0 false) 23 (0, 0))) (hk : Keep NoF w0 w) (hz : w0.heap.size ≤ Z) (k f t d n : Int) (y : Bool) :
    ((((((w.setCell ⟨Z, 0, none⟩ (.int .i64 k)).setCell ⟨Z, 1, none⟩ (.int .i64 f)).setCell ⟨Z, 2, none⟩ (.int .i64 t)).setCell ⟨Z, 3, none⟩ (.int .i64 d)).setCell ⟨Z, 4, none⟩ (.int .i64 n)).setCell ⟨Z, 5, none⟩ (.bool y)).heap[Z]? = some (.cells (pkC k f t d n y) 23 (0, 0)) ∧
      Keep NoF w0 ((((((w.setCell ⟨Z, 0, none⟩ (.int .i64 k)).setCell ⟨Z, 1, none⟩ (.int .i64 f)).setCell ⟨Z, 2, none⟩ (.int .i64 t)).setCell ⟨Z, 3, none⟩ (.int .i64 d)).setCell ⟨Z, 4, none⟩ (.int .i64 n)).setCell ⟨Z, 5, none⟩ (.bool y)) := by
  have h6 := set6 h (.int .i64 k) (.int .i64 f) (.int .i64 t) (.int .i64 d) (.int .i64 n) (.bool y)
  exact ⟨h6.1, hk.trans h6.2 (fun _ _ f => f) (fun i hi e => by omega)⟩

set_option maxHeartbeats 1000000 in
theorem wdec_short (ao : Option Addr) (n cp : Nat) (l : List UInt8) (w : World) (hn : l.length = n) (h4 : n < 4) :
    Calls Tryz.prog 18 #[.slice ao n cp] w (WDecPost w l) := by
  have hd : decW l = false := by unfold decW; rw [show decide (4 ≤ l.length) = false by simp; omega]; rfl
  have HD := Lib.hid hd
  have hi : (n : Int) < 4 := by omega
  have hb := heap_new w (.cells (pkC 0 0 0 0 0 false) 23 (0, 0))
  have HB := Lib.hid hb
  have HK := Lib.hid (keep_alloc w (.cells (pkC 0 0 0 0 0 false) 23 (0, 0)))
  clear hb hd hn
  go_enter Tryz.func18, Tryz.ntmps18
  go_wp2_with fail
  refine bodyPost_ret (results_pk rfl _ _ w.heap.size _ _ _ rfl HB.out rfl) rfl ?_
  unfold WDecPost
  rw [decPk_bad HD.out, HD.out]
  exact ⟨rfl, HK.out⟩

set_option maxHeartbeats 8000000 in
set_option maxRecDepth 8000 in
theorem wdec_long (ao : Option Addr) (n cp : Nat) (l : List UInt8) (w : World) (h : SlB w ao cp l) (hn : l.length = n) (h4 : 4 ≤ n) (hb : ∀ g, blockOf ao = some g → g < w.heap.size) :
    Calls Tryz.prog 18 #[.slice ao n cp] w (WDecPost w l) := by
  obtain ⟨m, rfl⟩ : ∃ m, n = m + 4 := ⟨n - 4, by omega⟩
  have hbo : bodyOf l = l.take m := by unfold bodyOf; rw [hn]; rfl
  have hmc : m + 4 ≤ cp := by rw [← hn]; exact h.1
  have hmx := h.2.1
  have HSL := Lib.hid h; have HBB := Lib.hid hb; have HN := Lib.hid hn; have HBO := Lib.hid hbo
  have hml : (l.take m).length = m := by rw [List.length_take]; omega
  have HML := Lib.hid hml
  have hi : ¬ ((m + 4 : Nat) : Int) < 4 := by omega
  unfold maxLen at hmx
  clear h hb hn hbo hml
  go_enter Tryz.func18, Tryz.ntmps18
  go_wp2_with fail
  refine (wread_at ao cp (l.take m) m _ ((HSL.out.take m).keep (keep_alloc w _) (fun _ _ f => f)) HML.out (fun g hg => by have := HBB.out g hg; simp; omega) (w.heap.size + 1) (by simp)).mono ?_
  rintro e w1 ⟨rfl, hR, hk⟩
  have hres1 : w1.heap[w.heap.size]? = some (.cells (pkC 0 0 0 0 0 false) 23 (0, 0)) := by
    have h1 := heap_new w (.cells (pkC 0 0 0 0 0 false) 23 (0, 0))
    rw [hk.block _ (lt_of_heap h1) (fun f => f)]; exact h1
  have HI1 : Hid (WDI w w1 w.heap.size (w.heap.size + 1) (blockOf ao) (some (l.take m))) := Lib.hid ⟨hR, hres1, (keep_alloc w _).trans' hk, Nat.le_refl _, by omega⟩
  obtain ⟨Z, hZ⟩ : ∃ Z, w.heap.size = Z := ⟨_, rfl⟩
  obtain ⟨P, hP⟩ : ∃ P, w.heap.size + 1 = P := ⟨_, rfl⟩
  have HZ := Lib.hid hZ
  rw [hP] at HI1 ⊢
  rw [hZ] at HI1 ⊢
  rw [← HBO.out] at HI1
  clear hR hk hres1 hZ hP
  obtain ⟨B, hB⟩ : ∃ B, bodyOf l = B := ⟨_, rfl⟩
  rw [hB] at HI1
  go_wp2_with fail
  refine (insmall_any P _ _ _ HI1.out.rd).mono ?_
  rintro e w2 ⟨rfl, hs⟩
  have hI := HI1.out.step hs
  have HI2 := Lib.hid hI
  clear hs hI HI1
  go_wp2_with fail
  refine (insmall_any P _ _ _ HI2.out.rd).mono ?_
  rintro e w3 ⟨rfl, hs⟩
  have hI := HI2.out.step hs
  have HI3 := Lib.hid hI
  clear hs hI HI2
  go_wp2_with fail
  refine (insmall_any P _ _ _ HI3.out.rd).mono ?_
  rintro e w4 ⟨rfl, hs⟩
  have hI := HI3.out.step hs
  have HI4 := Lib.hid hI
  clear hs hI HI3
  go_wp2_with fail
  refine (inlong_any P _ _ _ HI4.out.rd).mono ?_
  rintro e w5 ⟨rfl, hs⟩
  have hI := HI4.out.step hs
  have HI5 := Lib.hid hI
  clear hs hI HI4
  go_wp2_with fail
  refine (insmall_any P _ _ _ HI5.out.rd).mono ?_
  rintro e w6 ⟨rfl, hs⟩
  have hI := HI5.out.step hs
  have HI6 := Lib.hid hI
  clear hs hI HI5
  go_wp2_with fail
  refine (intruth_any P _ _ _ HI6.out.rd).mono ?_
  rintro e w7 ⟨rfl, hs⟩
  have hI := HI6.out.step hs
  have HI7 := Lib.hid hI
  clear hs hI HI6
  have hrd : (⟨rdN 2 (some B), rdN 2 (rdS 2 (some B)), rdN 2 (rdS 2 (rdS 2 (some B))), wrap64 (rdN 8 (rdS 2 (rdS 2 (rdS 2 (some B))))), rdN 2 (rdS 8 (rdS 2 (rdS 2 (rdS 2 (some B))))), decide (rdN 1 (rdS 2 (rdS 8 (rdS 2 (rdS 2 (rdS 2 (some B)))))) = 1)⟩ : PackV) = rdP B := rfl
  have hI7b : WDI w w7 Z P (blockOf ao) (s6 B) := HI7.out
  have HI7b := Lib.hid hI7b
  have HRD := Lib.hid hrd
  clear HI7 hrd hI7b
  obtain ⟨xk, hxk⟩ : ∃ x : Int, ((rdN 2 (some B) : Nat) : Int) = x := ⟨_, rfl⟩
  obtain ⟨xf, hxf⟩ : ∃ x : Int, ((rdN 2 (rdS 2 (some B)) : Nat) : Int) = x := ⟨_, rfl⟩
  obtain ⟨xt, hxt⟩ : ∃ x : Int, ((rdN 2 (rdS 2 (rdS 2 (some B))) : Nat) : Int) = x := ⟨_, rfl⟩
  obtain ⟨xd, hxd⟩ : ∃ x : Int, (wrap64 ((rdN 8 (rdS 2 (rdS 2 (rdS 2 (some B)))) : Nat) : Int)) = x := ⟨_, rfl⟩
  obtain ⟨xn, hxn⟩ : ∃ x : Int, ((rdN 2 (rdS 8 (rdS 2 (rdS 2 (rdS 2 (some B))))) : Nat) : Int) = x := ⟨_, rfl⟩
  obtain ⟨xy, hxy⟩ : ∃ x : Bool, decide (rdN 1 (rdS 2 (rdS 8 (rdS 2 (rdS 2 (rdS 2 (some B)))))) = 1) = x := ⟨_, rfl⟩
  rw [hxk, hxf, hxt, hxd, hxn, hxy] at HRD
  rw [hxk, hxf, hxt, hxd, hxn, hxy]
  clear hxk hxf hxt hxd hxn hxy
  have hok : (⟨xk, xf, xt, xd, xn, xy⟩ : PackV).Ok := by rw [HRD.out]; exact rdP_ok _
  have HOK := Lib.hid hok
  have HB := Lib.hid hB
  clear hok hB
  obtain ⟨R, hR⟩ : ∃ R, w7.heap.size = R := ⟨_, rfl⟩
  go_upto_region 5 with fail
  have h6 := heap_new w7 (.cells (pkC xk xf xt xd xn xy) 23 (0, 0))
  rw [hR] at h6
  have hka : Keep NoF w7 (w7.alloc (.cells (pkC xk xf xt xd xn xy) 23 (0, 0))) := keep_alloc _ _
  show Code.wp _ _ _ _ (w7.alloc (.cells (pkC xk xf xt xd xn xy) 23 (0, 0)))
  generalize w7.alloc (.cells (pkC xk xf xt xd xn xy) 23 (0, 0)) = WA at h6 hka ⊢
  have KA := Lib.hid (HI7b.out.keep.trans' hka)
  have HRES : Hid (∀ W, Keep NoF WA W → W.heap[Z]? = some (.cells (pkC 0 0 0 0 0 false) 23 (0, 0))) := Lib.hid fun W hW => by
    rw [(hka.trans' hW).block Z (lt_of_heap HI7b.out.res) (fun f => f)]; exact HI7b.out.res
  have HRI : Hid (∀ W, Keep NoF WA W → InR W P (blockOf ao) (s6 B)) := Lib.hid fun W hW => HI7b.out.rd.keep (hka.trans' hW) (fun f => f) (fun _ _ f => f)
  have hc : ∀ W' : World, Keep NoF WA W' → W'.cell? ⟨R, 0, none⟩ = some (.int .i64 xk) ∧ W'.cell? ⟨R, 1, none⟩ = some (.int .i64 xf) ∧ W'.cell? ⟨R, 2, none⟩ = some (.int .i64 xt) ∧ W'.cell? ⟨R, 3, none⟩ = some (.int .i64 xd) ∧ W'.cell? ⟨R, 4, none⟩ = some (.int .i64 xn) ∧ W'.cell? ⟨R, 5, none⟩ = some (.bool xy) := by
    intro W hW
    have h2 : W.heap[R]? = some (.cells (pkC xk xf xt xd xn xy) 23 (0, 0)) := by rw [hW.block R (lt_of_heap h6) (fun f => f)]; exact h6
    refine ⟨?_, ?_, ?_, ?_, ?_, ?_⟩
    all_goals (rw [cell_of_heap h2]; rfl)
  have HC := Lib.hid hc
  have HV : Hid (∀ W, Keep NoF WA W → (convert 24 9 (.slice ao (m + 4) cp)).run Tryz.prog W = .ok (.string (bstr l)) W) := Lib.hid fun W hW => conv_at (HSL.out.keep (KA.out.trans' hW) (fun _ _ f => f)) HN.out
  have HZZ := Lib.hid HI7b.out.zn
  clear h6 hka hc hR HI7b
  have hv0 := HV.out WA.drew (Keep.refl NoF WA).drew
  obtain ⟨be, hbe⟩ : ∃ b, endOf (s6 B) = b := ⟨_, rfl⟩
  have HBE := Lib.hid hbe
  obtain ⟨bq, hbq⟩ : ∃ b, packB (⟨xk, xf, xt, xd, xn, xy⟩ : PackV) = b := ⟨_, rfl⟩
  have HBQ := Lib.hid hbq
  clear hbe hbq
  have hl4 : decide (4 ≤ l.length) = true := by simp; have := HN.out; omega
  have hdW : decW l = (be && (bq && decide (wireB (⟨xk, xf, xt, xd, xn, xy⟩ : PackV) = l))) := by unfold decW; rw [hl4, HB.out, HBE.out, ← HRD.out, HBQ.out, Bool.true_and]
  have HDW := Lib.hid hdW
  clear hl4 hdW
  cases be
  · have HDF : Hid (decW l = false) := by rw [HDW.out]; exact Lib.hid rfl
    refine wp_region_noPanic ?_
    refine wp_region_held_drew (S := (fun W' : World => (W'.cell? ⟨R, 0, none⟩ = some (.int .i64 xk) ∧ W'.cell? ⟨R, 1, none⟩ = some (.int .i64 xf) ∧ W'.cell? ⟨R, 2, none⟩ = some (.int .i64 xt) ∧ W'.cell? ⟨R, 3, none⟩ = some (.int .i64 xd) ∧ W'.cell? ⟨R, 4, none⟩ = some (.int .i64 xn) ∧ W'.cell? ⟨R, 5, none⟩ = some (.bool xy)) ∧ (convert 24 9 (.slice ao (m + 4) cp)).run Tryz.prog W' = .ok (.string (bstr l)) W')) (by kernel_rfl) (⟨HC.out _ (Keep.refl NoF WA).drew, hv0⟩) (fun hHeld => ?_)
    refine wpAnyH_take (i := 0) (oi := ?oA0) (v := ?vA0) ?hiA0 (by kernel_rfl) (by kernel_rfl) (by kernel_rfl) (fun _ _ _ h => h) (Or.inl ⟨?wA0, ?yA0⟩) (by assumption) ?rA0
    case hiA0 => (simp only [List.getElem?_toArray, List.getElem?_cons_zero]; try rfl)
    case wA0 => rfl
    case yA0 => (intro w hSw; (try dsimp only at hSw); go_simp; (try with_reducible rfl))
    (try simp only [Act.put, List.setIfInBounds_toArray, List.set_cons_zero, List.set_cons_succ])
    refine wpAnyH_ready (rs := [1]) (by kernel_rfl) (by simp) ?_
    refine AllReadyH.cons (o := ?oA1) ?hiA1 (fun K hK => ?_) AllReadyH.nil
    case hiA1 => (simp only [List.getElem?_toArray, List.getElem?_cons_succ, List.getElem?_cons_zero]; try rfl)
    go_simp
    (go_at_call 40; refine (inend_any P (blockOf ao) (s6 B) _ (HRI.out _ (Keep.refl NoF WA).drew)).mono ?_; rintro e wb ⟨rfl, hwb⟩; rw [HBE.out]; have KB : Hid (Keep NoF WA wb) := Lib.hid (hwb ▸ (Keep.refl NoF WA).drew); clear hwb)
    go_wp2_with fail
    refine hK.out _ _ (⟨HC.out _ KB.out, HV.out _ KB.out⟩) (fun hHeld => ?_)
    clear hK K
    (try simp only [Act.put, List.setIfInBounds_toArray, List.set_cons_zero, List.set_cons_succ])
    refine wpAnyH_take (i := 2) (oi := ?oA2) (v := ?vA2) ?hiA2 (by kernel_rfl) (by kernel_rfl) (by kernel_rfl) (fun _ _ _ h => h) (Or.inl ⟨?wA2, ?yA2⟩) (by assumption) ?rA2
    case hiA2 => (simp only [List.getElem?_toArray, List.getElem?_cons_succ, List.getElem?_cons_zero]; try rfl)
    case wA2 => rfl
    case yA2 => (intro w hSw; (try dsimp only at hSw); go_simp; (try with_reducible rfl))
    (try simp only [Act.put, List.setIfInBounds_toArray, List.set_cons_zero, List.set_cons_succ])
    refine wpAnyH_take (i := 3) (oi := ?oA3) (v := ?vA3) ?hiA3 (by kernel_rfl) (by kernel_rfl) (by kernel_rfl) (fun _ _ _ h => h) (Or.inl ⟨?wA3, ?yA3⟩) (by assumption) ?rA3
    case hiA3 => (simp only [List.getElem?_toArray, List.getElem?_cons_succ, List.getElem?_cons_zero]; try rfl)
    case wA3 => rfl
    case yA3 => (intro w hSw; (try dsimp only at hSw); go_simp; (try with_reducible rfl))
    (try simp only [Act.put, List.setIfInBounds_toArray, List.set_cons_zero, List.set_cons_succ])
    refine wpAnyH_take (i := 4) (oi := ?oA4) (v := undef) ?hiA4 (by kernel_rfl) (by kernel_rfl) (by kernel_rfl) (fun _ _ _ h => h) (Or.inr ⟨?wA4, rfl⟩) (by assumption) ?rA4
    case hiA4 => (simp only [List.getElem?_toArray, List.getElem?_cons_succ, List.getElem?_cons_zero]; try rfl)
    case wA4 => rfl
    (try simp only [Act.put, List.setIfInBounds_toArray, List.set_cons_zero, List.set_cons_succ])
    refine wpAnyH_take (i := 5) (oi := ?oA5) (v := undef) ?hiA5 (by kernel_rfl) (by kernel_rfl) (by kernel_rfl) (fun _ _ _ h => h) (Or.inr ⟨?wA5, rfl⟩) (by assumption) ?rA5
    case hiA5 => (simp only [List.getElem?_toArray, List.getElem?_cons_succ, List.getElem?_cons_zero]; try rfl)
    case wA5 => rfl
    (try simp only [Act.put, List.setIfInBounds_toArray, List.set_cons_zero, List.set_cons_succ])
    refine wpAnyH_take (i := 6) (oi := ?oA6) (v := undef) ?hiA6 (by kernel_rfl) (by kernel_rfl) (by kernel_rfl) (fun _ _ _ h => h) (Or.inr ⟨?wA6, rfl⟩) (by assumption) ?rA6
    case hiA6 => (simp only [List.getElem?_toArray, List.getElem?_cons_succ, List.getElem?_cons_zero]; try rfl)
    case wA6 => rfl
    (try simp only [Act.put, List.setIfInBounds_toArray, List.set_cons_zero, List.set_cons_succ])
    refine wpAnyH_take (i := 7) (oi := ?oA7) (v := undef) ?hiA7 (by kernel_rfl) (by kernel_rfl) (by kernel_rfl) (fun _ _ _ h => h) (Or.inr ⟨?wA7, rfl⟩) (by assumption) ?rA7
    case hiA7 => (simp only [List.getElem?_toArray, List.getElem?_cons_succ, List.getElem?_cons_zero]; try rfl)
    case wA7 => rfl
    (try simp only [Act.put, List.setIfInBounds_toArray, List.set_cons_zero, List.set_cons_succ])
    refine wpAnyH_take (i := 8) (oi := ?oA8) (v := undef) ?hiA8 (by kernel_rfl) (by kernel_rfl) (by kernel_rfl) (fun _ _ _ h => h) (Or.inr ⟨?wA8, rfl⟩) (by assumption) ?rA8
    case hiA8 => (simp only [List.getElem?_toArray, List.getElem?_cons_succ, List.getElem?_cons_zero]; try rfl)
    case wA8 => rfl
    (try simp only [Act.put, List.setIfInBounds_toArray, List.set_cons_zero, List.set_cons_succ])
    refine wpAnyH_take (i := 9) (oi := ?oA9) (v := undef) ?hiA9 (by kernel_rfl) (by kernel_rfl) (by kernel_rfl) (fun _ _ _ h => h) (Or.inr ⟨?wA9, rfl⟩) (by assumption) ?rA9
    case hiA9 => (simp only [List.getElem?_toArray, List.getElem?_cons_succ, List.getElem?_cons_zero]; try rfl)
    case wA9 => rfl
    (try simp only [Act.put, List.setIfInBounds_toArray, List.set_cons_zero, List.set_cons_succ])
    refine wpAnyH_take (i := 10) (oi := ?oA10) (v := ?vA10) ?hiA10 (by kernel_rfl) (by kernel_rfl) (by kernel_rfl) (fun _ _ _ h => h) (Or.inl ⟨?wA10, ?yA10⟩) (by assumption) ?rA10
    case hiA10 => (simp only [List.getElem?_toArray, List.getElem?_cons_succ, List.getElem?_cons_zero]; try rfl)
    case wA10 => rfl
    case yA10 => (intro w hSw; (try dsimp only at hSw); go_simp; (try with_reducible rfl))
    (try simp only [Act.put, List.setIfInBounds_toArray, List.set_cons_zero, List.set_cons_succ])
    refine wpAnyH_done (by kernel_rfl) ?_ _
    refine NoPanic.normal ?_
    all_goals
      have hZ9 := HRES.out _ KB.out
      have y0 := free_of_heap hZ9 0
      have y1 := free_of_heap hZ9 1
      have y2 := free_of_heap hZ9 2
      have y3 := free_of_heap hZ9 3
      have y4 := free_of_heap hZ9 4
      have y5 := free_of_heap hZ9 5
      have hp6 := pk_set hZ9 (KA.out.trans' KB.out) HZZ.out 0 0 0 0 0 false
      have z0 := cell_of_heap hZ9 0
      have z1 := cell_of_heap hZ9 1
      have z2 := cell_of_heap hZ9 2
      have z3 := cell_of_heap hZ9 3
      have z4 := cell_of_heap hZ9 4
      have z5 := cell_of_heap hZ9 5
      simp [pkC] at z0 z1 z2 z3 z4 z5
      have HZ9 := Lib.hid hZ9; have HP6 := Lib.hid hp6
      clear hZ9 hp6
      go_wp2_with fail
      refine bodyPost_ret (results_pk rfl _ _ Z _ _ _ rfl HP6.out.1 rfl) rfl ?_
      unfold WDecPost
      rw [decPk_bad HDF.out, HDF.out]
      exact ⟨rfl, HP6.out.2⟩
  · cases bq
    · have HDF : Hid (decW l = false) := by rw [HDW.out]; exact Lib.hid rfl
      have HE := Lib.hid (fun W => wenc_bad ⟨xk, xf, xt, xd, xn, xy⟩ W HOK.out HBQ.out)
      unfold packVal at HE
      simp only at HE
      have hne : ((bstr []).toList == (bstr l).toList) = false := by
        rw [Bool.eq_false_iff]; intro h; rw [str_eq] at h
        have h2 := congrArg ByteArray.size h
        rw [bstr_size, bstr_size] at h2; have := HN.out; simp at h2; omega
      refine wp_region_noPanic ?_
      refine wp_region_held_drew (S := (fun W' : World => (W'.cell? ⟨R, 0, none⟩ = some (.int .i64 xk) ∧ W'.cell? ⟨R, 1, none⟩ = some (.int .i64 xf) ∧ W'.cell? ⟨R, 2, none⟩ = some (.int .i64 xt) ∧ W'.cell? ⟨R, 3, none⟩ = some (.int .i64 xd) ∧ W'.cell? ⟨R, 4, none⟩ = some (.int .i64 xn) ∧ W'.cell? ⟨R, 5, none⟩ = some (.bool xy)) ∧ (convert 24 9 (.slice ao (m + 4) cp)).run Tryz.prog W' = .ok (.string (bstr l)) W')) (by kernel_rfl) (⟨HC.out _ (Keep.refl NoF WA).drew, hv0⟩) (fun hHeld => ?_)
      refine wpAnyH_take (i := 0) (oi := ?oB0) (v := ?vB0) ?hiB0 (by kernel_rfl) (by kernel_rfl) (by kernel_rfl) (fun _ _ _ h => h) (Or.inl ⟨?wB0, ?yB0⟩) (by assumption) ?rB0
      case hiB0 => (simp only [List.getElem?_toArray, List.getElem?_cons_zero]; try rfl)
      case wB0 => rfl
      case yB0 => (intro w hSw; (try dsimp only at hSw); go_simp; (try with_reducible rfl))
      (try simp only [Act.put, List.setIfInBounds_toArray, List.set_cons_zero, List.set_cons_succ])
      refine wpAnyH_ready (rs := [1]) (by kernel_rfl) (by simp) ?_
      refine AllReadyH.cons (o := ?oB1) ?hiB1 (fun K hK => ?_) AllReadyH.nil
      case hiB1 => (simp only [List.getElem?_toArray, List.getElem?_cons_succ, List.getElem?_cons_zero]; try rfl)
      go_simp
      (go_at_call 40; refine (inend_any P (blockOf ao) (s6 B) _ (HRI.out _ (Keep.refl NoF WA).drew)).mono ?_; rintro e wb ⟨rfl, hwb⟩; rw [HBE.out]; have KB : Hid (Keep NoF WA wb) := Lib.hid (hwb ▸ (Keep.refl NoF WA).drew); clear hwb)
      go_wp2_with fail
      refine hK.out _ _ (⟨HC.out _ KB.out, HV.out _ KB.out⟩) (fun hHeld => ?_)
      clear hK K
      (try simp only [Act.put, List.setIfInBounds_toArray, List.set_cons_zero, List.set_cons_succ])
      refine wpAnyH_take (i := 2) (oi := ?oB2) (v := ?vB2) ?hiB2 (by kernel_rfl) (by kernel_rfl) (by kernel_rfl) (fun _ _ _ h => h) (Or.inl ⟨?wB2, ?yB2⟩) (by assumption) ?rB2
      case hiB2 => (simp only [List.getElem?_toArray, List.getElem?_cons_succ, List.getElem?_cons_zero]; try rfl)
      case wB2 => rfl
      case yB2 => (intro w hSw; (try dsimp only at hSw); go_simp; (try with_reducible rfl))
      (try simp only [Act.put, List.setIfInBounds_toArray, List.set_cons_zero, List.set_cons_succ])
      refine wpAnyH_take (i := 3) (oi := ?oB3) (v := ?vB3) ?hiB3 (by kernel_rfl) (by kernel_rfl) (by kernel_rfl) (fun _ _ _ h => h) (Or.inl ⟨?wB3, ?yB3⟩) (by assumption) ?rB3
      case hiB3 => (simp only [List.getElem?_toArray, List.getElem?_cons_succ, List.getElem?_cons_zero]; try rfl)
      case wB3 => rfl
      case yB3 => (intro w hSw; (try dsimp only at hSw); go_simp; (try with_reducible rfl))
      (try simp only [Act.put, List.setIfInBounds_toArray, List.set_cons_zero, List.set_cons_succ])
      refine wpAnyH_take (i := 4) (oi := ?oB4) (v := ?vB4) ?hiB4 (by kernel_rfl) (by kernel_rfl) (by kernel_rfl) (fun _ _ _ h => h) (Or.inl ⟨?wB4, ?yB4⟩) (by assumption) ?rB4
      case hiB4 => (simp only [List.getElem?_toArray, List.getElem?_cons_succ, List.getElem?_cons_zero]; try rfl)
      case wB4 => rfl
      case yB4 => (intro w hSw; (try dsimp only at hSw); go_simp; (try with_reducible rfl))
      (try simp only [Act.put, List.setIfInBounds_toArray, List.set_cons_zero, List.set_cons_succ])
      refine wpAnyH_take (i := 7) (oi := ?oB7) (v := ?vB7) ?hiB7 (by kernel_rfl) (by kernel_rfl) (by kernel_rfl) (fun _ _ _ h => h) (Or.inl ⟨?wB7, ?yB7⟩) (by assumption) ?rB7
      case hiB7 => (simp only [List.getElem?_toArray, List.getElem?_cons_succ, List.getElem?_cons_zero]; try rfl)
      case wB7 => rfl
      case yB7 => (intro w hSw; (try dsimp only at hSw); go_simp; (try with_reducible rfl))
      (try simp only [Act.put, List.setIfInBounds_toArray, List.set_cons_zero, List.set_cons_succ])
      refine wpAnyH_take (i := 8) (oi := ?oB8) (v := ?vB8) ?hiB8 (by kernel_rfl) (by kernel_rfl) (by kernel_rfl) (fun _ _ _ h => h) (Or.inl ⟨?wB8, ?yB8⟩) (by assumption) ?rB8
      case hiB8 => (simp only [List.getElem?_toArray, List.getElem?_cons_succ, List.getElem?_cons_zero]; try rfl)
      case wB8 => rfl
      case yB8 => (intro w hSw; (try dsimp only at hSw); go_simp; (try with_reducible rfl))
      (try simp only [Act.put, List.setIfInBounds_toArray, List.set_cons_zero, List.set_cons_succ])
      refine wpAnyH_ready (rs := [5]) (by kernel_rfl) (by simp) ?_
      refine AllReadyH.cons (o := ?oB5) ?hiB5 (fun K hK => ?_) AllReadyH.nil
      case hiB5 => (simp only [List.getElem?_toArray, List.getElem?_cons_succ, List.getElem?_cons_zero]; try rfl)
      go_simp
      (go_at_call 15; refine (HE.out wb).mono ?_; rintro e wc ⟨rfl, hkc⟩; have KC := Lib.hid (KB.out.trans' hkc); have hvc := conv_at (w := wc) (ao := none) (cp := 0) (l := []) (n := 0) ⟨by simp, by simp, by simp⟩ rfl; clear hkc)
      go_wp2_with fail
      refine hK.out _ _ (⟨HC.out _ KC.out, HV.out _ KC.out⟩) (fun hHeld => ?_)
      clear hK K
      (try simp only [Act.put, List.setIfInBounds_toArray, List.set_cons_zero, List.set_cons_succ])
      refine wpAnyH_ready (rs := [6]) (by kernel_rfl) (by simp) ?_
      refine AllReadyH.cons (o := ?oB6) ?hiB6 (fun K hK => ?_) AllReadyH.nil
      case hiB6 => (simp only [List.getElem?_toArray, List.getElem?_cons_succ, List.getElem?_cons_zero]; try rfl)
      go_simp
      refine hK.out _ _ (⟨HC.out _ KC.out, HV.out _ KC.out⟩) (fun hHeld => ?_)
      clear hK K
      (try simp only [Act.put, List.setIfInBounds_toArray, List.set_cons_zero, List.set_cons_succ])
      refine wpAnyH_take (i := 9) (oi := ?oB9) (v := ?vB9) ?hiB9 (by kernel_rfl) (by kernel_rfl) (by kernel_rfl) (fun _ _ _ h => h) (Or.inl ⟨?wB9, ?yB9⟩) (by assumption) ?rB9
      case hiB9 => (simp only [List.getElem?_toArray, List.getElem?_cons_succ, List.getElem?_cons_zero]; try rfl)
      case wB9 => rfl
      case yB9 => (intro w hSw; (try dsimp only at hSw); go_simp; (try with_reducible rfl))
      (try simp only [Act.put, List.setIfInBounds_toArray, List.set_cons_zero, List.set_cons_succ])
      refine wpAnyH_take (i := 10) (oi := ?oB10) (v := ?vB10) ?hiB10 (by kernel_rfl) (by kernel_rfl) (by kernel_rfl) (fun _ _ _ h => h) (Or.inl ⟨?wB10, ?yB10⟩) (by assumption) ?rB10
      case hiB10 => (simp only [List.getElem?_toArray, List.getElem?_cons_succ, List.getElem?_cons_zero]; try rfl)
      case wB10 => rfl
      case yB10 => (intro w hSw; (try dsimp only at hSw); go_simp; (try with_reducible rfl))
      (try simp only [Act.put, List.setIfInBounds_toArray, List.set_cons_zero, List.set_cons_succ])
      refine wpAnyH_done (by kernel_rfl) ?_ _
      refine NoPanic.normal ?_
      all_goals
        have hZ9 := HRES.out _ KC.out
        have y0 := free_of_heap hZ9 0
        have y1 := free_of_heap hZ9 1
        have y2 := free_of_heap hZ9 2
        have y3 := free_of_heap hZ9 3
        have y4 := free_of_heap hZ9 4
        have y5 := free_of_heap hZ9 5
        have hp6 := pk_set hZ9 (KA.out.trans' KC.out) HZZ.out 0 0 0 0 0 false
        have z0 := cell_of_heap hZ9 0
        have z1 := cell_of_heap hZ9 1
        have z2 := cell_of_heap hZ9 2
        have z3 := cell_of_heap hZ9 3
        have z4 := cell_of_heap hZ9 4
        have z5 := cell_of_heap hZ9 5
        simp [pkC] at z0 z1 z2 z3 z4 z5
        have HZ9 := Lib.hid hZ9; have HP6 := Lib.hid hp6
        clear hZ9 hp6
        go_wp2_with fail
        refine bodyPost_ret (results_pk rfl _ _ Z _ _ _ rfl HP6.out.1 rfl) rfl ?_
        unfold WDecPost
        rw [decPk_bad HDF.out, HDF.out]
        exact ⟨rfl, HP6.out.2⟩
    · have HE := Lib.hid (fun W => wenc_ok ⟨xk, xf, xt, xd, xn, xy⟩ W HOK.out HBQ.out)
      unfold packVal at HE
      simp only at HE
      obtain ⟨A, hA⟩ : ∃ A, wireB (⟨xk, xf, xt, xd, xn, xy⟩ : PackV) = A := ⟨_, rfl⟩
      rw [hA] at HE HDW
      obtain ⟨ev, hev⟩ : ∃ b, decide (A = l) = b := ⟨_, rfl⟩
      rw [hev] at HDW
      have hcmp : ((bstr A).toList == (bstr l).toList) = ev := by
        rw [← hev, Bool.eq_iff_iff, str_eq, decide_eq_true_eq]
        constructor
        · intro h; have h2 := congrArg (fun s : ByteArray => s.data.toList) h; simpa [bstr] using h2
        · intro h; rw [h]
      have HEV := Lib.hid hev; have HA := Lib.hid hA
      clear hev hA
      cases ev
      · have HDF : Hid (decW l = false) := by rw [HDW.out]; exact Lib.hid rfl
        refine wp_region_noPanic ?_
        refine wp_region_held_drew (S := (fun W' : World => (W'.cell? ⟨R, 0, none⟩ = some (.int .i64 xk) ∧ W'.cell? ⟨R, 1, none⟩ = some (.int .i64 xf) ∧ W'.cell? ⟨R, 2, none⟩ = some (.int .i64 xt) ∧ W'.cell? ⟨R, 3, none⟩ = some (.int .i64 xd) ∧ W'.cell? ⟨R, 4, none⟩ = some (.int .i64 xn) ∧ W'.cell? ⟨R, 5, none⟩ = some (.bool xy)) ∧ (convert 24 9 (.slice ao (m + 4) cp)).run Tryz.prog W' = .ok (.string (bstr l)) W')) (by kernel_rfl) (⟨HC.out _ (Keep.refl NoF WA).drew, hv0⟩) (fun hHeld => ?_)
        refine wpAnyH_take (i := 0) (oi := ?oC0) (v := ?vC0) ?hiC0 (by kernel_rfl) (by kernel_rfl) (by kernel_rfl) (fun _ _ _ h => h) (Or.inl ⟨?wC0, ?yC0⟩) (by assumption) ?rC0
        case hiC0 => (simp only [List.getElem?_toArray, List.getElem?_cons_zero]; try rfl)
        case wC0 => rfl
        case yC0 => (intro w hSw; (try dsimp only at hSw); go_simp; (try with_reducible rfl))
        (try simp only [Act.put, List.setIfInBounds_toArray, List.set_cons_zero, List.set_cons_succ])
        refine wpAnyH_ready (rs := [1]) (by kernel_rfl) (by simp) ?_
        refine AllReadyH.cons (o := ?oC1) ?hiC1 (fun K hK => ?_) AllReadyH.nil
        case hiC1 => (simp only [List.getElem?_toArray, List.getElem?_cons_succ, List.getElem?_cons_zero]; try rfl)
        go_simp
        (go_at_call 40; refine (inend_any P (blockOf ao) (s6 B) _ (HRI.out _ (Keep.refl NoF WA).drew)).mono ?_; rintro e wb ⟨rfl, hwb⟩; rw [HBE.out]; have KB : Hid (Keep NoF WA wb) := Lib.hid (hwb ▸ (Keep.refl NoF WA).drew); clear hwb)
        go_wp2_with fail
        refine hK.out _ _ (⟨HC.out _ KB.out, HV.out _ KB.out⟩) (fun hHeld => ?_)
        clear hK K
        (try simp only [Act.put, List.setIfInBounds_toArray, List.set_cons_zero, List.set_cons_succ])
        refine wpAnyH_take (i := 2) (oi := ?oC2) (v := ?vC2) ?hiC2 (by kernel_rfl) (by kernel_rfl) (by kernel_rfl) (fun _ _ _ h => h) (Or.inl ⟨?wC2, ?yC2⟩) (by assumption) ?rC2
        case hiC2 => (simp only [List.getElem?_toArray, List.getElem?_cons_succ, List.getElem?_cons_zero]; try rfl)
        case wC2 => rfl
        case yC2 => (intro w hSw; (try dsimp only at hSw); go_simp; (try with_reducible rfl))
        (try simp only [Act.put, List.setIfInBounds_toArray, List.set_cons_zero, List.set_cons_succ])
        refine wpAnyH_take (i := 3) (oi := ?oC3) (v := ?vC3) ?hiC3 (by kernel_rfl) (by kernel_rfl) (by kernel_rfl) (fun _ _ _ h => h) (Or.inl ⟨?wC3, ?yC3⟩) (by assumption) ?rC3
        case hiC3 => (simp only [List.getElem?_toArray, List.getElem?_cons_succ, List.getElem?_cons_zero]; try rfl)
        case wC3 => rfl
        case yC3 => (intro w hSw; (try dsimp only at hSw); go_simp; (try with_reducible rfl))
        (try simp only [Act.put, List.setIfInBounds_toArray, List.set_cons_zero, List.set_cons_succ])
        refine wpAnyH_take (i := 4) (oi := ?oC4) (v := ?vC4) ?hiC4 (by kernel_rfl) (by kernel_rfl) (by kernel_rfl) (fun _ _ _ h => h) (Or.inl ⟨?wC4, ?yC4⟩) (by assumption) ?rC4
        case hiC4 => (simp only [List.getElem?_toArray, List.getElem?_cons_succ, List.getElem?_cons_zero]; try rfl)
        case wC4 => rfl
        case yC4 => (intro w hSw; (try dsimp only at hSw); go_simp; (try with_reducible rfl))
        (try simp only [Act.put, List.setIfInBounds_toArray, List.set_cons_zero, List.set_cons_succ])
        refine wpAnyH_take (i := 7) (oi := ?oC7) (v := ?vC7) ?hiC7 (by kernel_rfl) (by kernel_rfl) (by kernel_rfl) (fun _ _ _ h => h) (Or.inl ⟨?wC7, ?yC7⟩) (by assumption) ?rC7
        case hiC7 => (simp only [List.getElem?_toArray, List.getElem?_cons_succ, List.getElem?_cons_zero]; try rfl)
        case wC7 => rfl
        case yC7 => (intro w hSw; (try dsimp only at hSw); go_simp; (try with_reducible rfl))
        (try simp only [Act.put, List.setIfInBounds_toArray, List.set_cons_zero, List.set_cons_succ])
        refine wpAnyH_take (i := 8) (oi := ?oC8) (v := ?vC8) ?hiC8 (by kernel_rfl) (by kernel_rfl) (by kernel_rfl) (fun _ _ _ h => h) (Or.inl ⟨?wC8, ?yC8⟩) (by assumption) ?rC8
        case hiC8 => (simp only [List.getElem?_toArray, List.getElem?_cons_succ, List.getElem?_cons_zero]; try rfl)
        case wC8 => rfl
        case yC8 => (intro w hSw; (try dsimp only at hSw); go_simp; (try with_reducible rfl))
        (try simp only [Act.put, List.setIfInBounds_toArray, List.set_cons_zero, List.set_cons_succ])
        refine wpAnyH_ready (rs := [5]) (by kernel_rfl) (by simp) ?_
        refine AllReadyH.cons (o := ?oC5) ?hiC5 (fun K hK => ?_) AllReadyH.nil
        case hiC5 => (simp only [List.getElem?_toArray, List.getElem?_cons_succ, List.getElem?_cons_zero]; try rfl)
        go_simp
        (go_at_call 15; refine (HE.out wb).mono ?_; rintro e wc ⟨v9, rfl, hv9, hkc, hg9⟩; obtain ⟨ao9, cp9, rfl, hs9, _⟩ := hv9.slb; have KC := Lib.hid (KB.out.trans' hkc); have hvc := conv_at hs9 rfl; clear hs9 hv9 hkc hg9)
        go_wp2_with fail
        refine hK.out _ _ (⟨HC.out _ KC.out, HV.out _ KC.out⟩) (fun hHeld => ?_)
        clear hK K
        (try simp only [Act.put, List.setIfInBounds_toArray, List.set_cons_zero, List.set_cons_succ])
        refine wpAnyH_ready (rs := [6]) (by kernel_rfl) (by simp) ?_
        refine AllReadyH.cons (o := ?oC6) ?hiC6 (fun K hK => ?_) AllReadyH.nil
        case hiC6 => (simp only [List.getElem?_toArray, List.getElem?_cons_succ, List.getElem?_cons_zero]; try rfl)
        go_simp
        refine hK.out _ _ (⟨HC.out _ KC.out, HV.out _ KC.out⟩) (fun hHeld => ?_)
        clear hK K
        (try simp only [Act.put, List.setIfInBounds_toArray, List.set_cons_zero, List.set_cons_succ])
        refine wpAnyH_take (i := 9) (oi := ?oC9) (v := ?vC9) ?hiC9 (by kernel_rfl) (by kernel_rfl) (by kernel_rfl) (fun _ _ _ h => h) (Or.inl ⟨?wC9, ?yC9⟩) (by assumption) ?rC9
        case hiC9 => (simp only [List.getElem?_toArray, List.getElem?_cons_succ, List.getElem?_cons_zero]; try rfl)
        case wC9 => rfl
        case yC9 => (intro w hSw; (try dsimp only at hSw); go_simp; (try with_reducible rfl))
        (try simp only [Act.put, List.setIfInBounds_toArray, List.set_cons_zero, List.set_cons_succ])
        refine wpAnyH_take (i := 10) (oi := ?oC10) (v := ?vC10) ?hiC10 (by kernel_rfl) (by kernel_rfl) (by kernel_rfl) (fun _ _ _ h => h) (Or.inl ⟨?wC10, ?yC10⟩) (by assumption) ?rC10
        case hiC10 => (simp only [List.getElem?_toArray, List.getElem?_cons_succ, List.getElem?_cons_zero]; try rfl)
        case wC10 => rfl
        case yC10 => (intro w hSw; (try dsimp only at hSw); go_simp; (try with_reducible rfl))
        (try simp only [Act.put, List.setIfInBounds_toArray, List.set_cons_zero, List.set_cons_succ])
        refine wpAnyH_done (by kernel_rfl) ?_ _
        refine NoPanic.normal ?_
        all_goals
          have hZ9 := HRES.out _ KC.out
          have y0 := free_of_heap hZ9 0
          have y1 := free_of_heap hZ9 1
          have y2 := free_of_heap hZ9 2
          have y3 := free_of_heap hZ9 3
          have y4 := free_of_heap hZ9 4
          have y5 := free_of_heap hZ9 5
          have hp6 := pk_set hZ9 (KA.out.trans' KC.out) HZZ.out 0 0 0 0 0 false
          have z0 := cell_of_heap hZ9 0
          have z1 := cell_of_heap hZ9 1
          have z2 := cell_of_heap hZ9 2
          have z3 := cell_of_heap hZ9 3
          have z4 := cell_of_heap hZ9 4
          have z5 := cell_of_heap hZ9 5
          simp [pkC] at z0 z1 z2 z3 z4 z5
          have HZ9 := Lib.hid hZ9; have HP6 := Lib.hid hp6
          clear hZ9 hp6
          go_wp2_with fail
          refine bodyPost_ret (results_pk rfl _ _ Z _ _ _ rfl HP6.out.1 rfl) rfl ?_
          unfold WDecPost
          rw [decPk_bad HDF.out, HDF.out]
          exact ⟨rfl, HP6.out.2⟩
      · have HDF : Hid (decW l = true) := by rw [HDW.out]; exact Lib.hid rfl
        refine wp_region_noPanic ?_
        refine wp_region_held_drew (S := (fun W' : World => (W'.cell? ⟨R, 0, none⟩ = some (.int .i64 xk) ∧ W'.cell? ⟨R, 1, none⟩ = some (.int .i64 xf) ∧ W'.cell? ⟨R, 2, none⟩ = some (.int .i64 xt) ∧ W'.cell? ⟨R, 3, none⟩ = some (.int .i64 xd) ∧ W'.cell? ⟨R, 4, none⟩ = some (.int .i64 xn) ∧ W'.cell? ⟨R, 5, none⟩ = some (.bool xy)) ∧ (convert 24 9 (.slice ao (m + 4) cp)).run Tryz.prog W' = .ok (.string (bstr l)) W')) (by kernel_rfl) (⟨HC.out _ (Keep.refl NoF WA).drew, hv0⟩) (fun hHeld => ?_)
        refine wpAnyH_take (i := 0) (oi := ?oD0) (v := ?vD0) ?hiD0 (by kernel_rfl) (by kernel_rfl) (by kernel_rfl) (fun _ _ _ h => h) (Or.inl ⟨?wD0, ?yD0⟩) (by assumption) ?rD0
        case hiD0 => (simp only [List.getElem?_toArray, List.getElem?_cons_zero]; try rfl)
        case wD0 => rfl
        case yD0 => (intro w hSw; (try dsimp only at hSw); go_simp; (try with_reducible rfl))
        (try simp only [Act.put, List.setIfInBounds_toArray, List.set_cons_zero, List.set_cons_succ])
        refine wpAnyH_ready (rs := [1]) (by kernel_rfl) (by simp) ?_
        refine AllReadyH.cons (o := ?oD1) ?hiD1 (fun K hK => ?_) AllReadyH.nil
        case hiD1 => (simp only [List.getElem?_toArray, List.getElem?_cons_succ, List.getElem?_cons_zero]; try rfl)
        go_simp
        (go_at_call 40; refine (inend_any P (blockOf ao) (s6 B) _ (HRI.out _ (Keep.refl NoF WA).drew)).mono ?_; rintro e wb ⟨rfl, hwb⟩; rw [HBE.out]; have KB : Hid (Keep NoF WA wb) := Lib.hid (hwb ▸ (Keep.refl NoF WA).drew); clear hwb)
        go_wp2_with fail
        refine hK.out _ _ (⟨HC.out _ KB.out, HV.out _ KB.out⟩) (fun hHeld => ?_)
        clear hK K
        (try simp only [Act.put, List.setIfInBounds_toArray, List.set_cons_zero, List.set_cons_succ])
        refine wpAnyH_take (i := 2) (oi := ?oD2) (v := ?vD2) ?hiD2 (by kernel_rfl) (by kernel_rfl) (by kernel_rfl) (fun _ _ _ h => h) (Or.inl ⟨?wD2, ?yD2⟩) (by assumption) ?rD2
        case hiD2 => (simp only [List.getElem?_toArray, List.getElem?_cons_succ, List.getElem?_cons_zero]; try rfl)
        case wD2 => rfl
        case yD2 => (intro w hSw; (try dsimp only at hSw); go_simp; (try with_reducible rfl))
        (try simp only [Act.put, List.setIfInBounds_toArray, List.set_cons_zero, List.set_cons_succ])
        refine wpAnyH_take (i := 3) (oi := ?oD3) (v := ?vD3) ?hiD3 (by kernel_rfl) (by kernel_rfl) (by kernel_rfl) (fun _ _ _ h => h) (Or.inl ⟨?wD3, ?yD3⟩) (by assumption) ?rD3
        case hiD3 => (simp only [List.getElem?_toArray, List.getElem?_cons_succ, List.getElem?_cons_zero]; try rfl)
        case wD3 => rfl
        case yD3 => (intro w hSw; (try dsimp only at hSw); go_simp; (try with_reducible rfl))
        (try simp only [Act.put, List.setIfInBounds_toArray, List.set_cons_zero, List.set_cons_succ])
        refine wpAnyH_take (i := 4) (oi := ?oD4) (v := ?vD4) ?hiD4 (by kernel_rfl) (by kernel_rfl) (by kernel_rfl) (fun _ _ _ h => h) (Or.inl ⟨?wD4, ?yD4⟩) (by assumption) ?rD4
        case hiD4 => (simp only [List.getElem?_toArray, List.getElem?_cons_succ, List.getElem?_cons_zero]; try rfl)
        case wD4 => rfl
        case yD4 => (intro w hSw; (try dsimp only at hSw); go_simp; (try with_reducible rfl))
        (try simp only [Act.put, List.setIfInBounds_toArray, List.set_cons_zero, List.set_cons_succ])
        refine wpAnyH_take (i := 7) (oi := ?oD7) (v := ?vD7) ?hiD7 (by kernel_rfl) (by kernel_rfl) (by kernel_rfl) (fun _ _ _ h => h) (Or.inl ⟨?wD7, ?yD7⟩) (by assumption) ?rD7
        case hiD7 => (simp only [List.getElem?_toArray, List.getElem?_cons_succ, List.getElem?_cons_zero]; try rfl)
        case wD7 => rfl
        case yD7 => (intro w hSw; (try dsimp only at hSw); go_simp; (try with_reducible rfl))
        (try simp only [Act.put, List.setIfInBounds_toArray, List.set_cons_zero, List.set_cons_succ])
        refine wpAnyH_take (i := 8) (oi := ?oD8) (v := ?vD8) ?hiD8 (by kernel_rfl) (by kernel_rfl) (by kernel_rfl) (fun _ _ _ h => h) (Or.inl ⟨?wD8, ?yD8⟩) (by assumption) ?rD8
        case hiD8 => (simp only [List.getElem?_toArray, List.getElem?_cons_succ, List.getElem?_cons_zero]; try rfl)
        case wD8 => rfl
        case yD8 => (intro w hSw; (try dsimp only at hSw); go_simp; (try with_reducible rfl))
        (try simp only [Act.put, List.setIfInBounds_toArray, List.set_cons_zero, List.set_cons_succ])
        refine wpAnyH_ready (rs := [5]) (by kernel_rfl) (by simp) ?_
        refine AllReadyH.cons (o := ?oD5) ?hiD5 (fun K hK => ?_) AllReadyH.nil
        case hiD5 => (simp only [List.getElem?_toArray, List.getElem?_cons_succ, List.getElem?_cons_zero]; try rfl)
        go_simp
        (go_at_call 15; refine (HE.out wb).mono ?_; rintro e wc ⟨v9, rfl, hv9, hkc, hg9⟩; obtain ⟨ao9, cp9, rfl, hs9, _⟩ := hv9.slb; have KC := Lib.hid (KB.out.trans' hkc); have hvc := conv_at hs9 rfl; clear hs9 hv9 hkc hg9)
        go_wp2_with fail
        refine hK.out _ _ (⟨HC.out _ KC.out, HV.out _ KC.out⟩) (fun hHeld => ?_)
        clear hK K
        (try simp only [Act.put, List.setIfInBounds_toArray, List.set_cons_zero, List.set_cons_succ])
        refine wpAnyH_ready (rs := [6]) (by kernel_rfl) (by simp) ?_
        refine AllReadyH.cons (o := ?oD6) ?hiD6 (fun K hK => ?_) AllReadyH.nil
        case hiD6 => (simp only [List.getElem?_toArray, List.getElem?_cons_succ, List.getElem?_cons_zero]; try rfl)
        go_simp
        refine hK.out _ _ (⟨HC.out _ KC.out, HV.out _ KC.out⟩) (fun hHeld => ?_)
        clear hK K
        (try simp only [Act.put, List.setIfInBounds_toArray, List.set_cons_zero, List.set_cons_succ])
        refine wpAnyH_take (i := 9) (oi := ?oD9) (v := ?vD9) ?hiD9 (by kernel_rfl) (by kernel_rfl) (by kernel_rfl) (fun _ _ _ h => h) (Or.inl ⟨?wD9, ?yD9⟩) (by assumption) ?rD9
        case hiD9 => (simp only [List.getElem?_toArray, List.getElem?_cons_succ, List.getElem?_cons_zero]; try rfl)
        case wD9 => rfl
        case yD9 => (intro w hSw; (try dsimp only at hSw); go_simp; (try with_reducible rfl))
        (try simp only [Act.put, List.setIfInBounds_toArray, List.set_cons_zero, List.set_cons_succ])
        refine wpAnyH_take (i := 10) (oi := ?oD10) (v := ?vD10) ?hiD10 (by kernel_rfl) (by kernel_rfl) (by kernel_rfl) (fun _ _ _ h => h) (Or.inl ⟨?wD10, ?yD10⟩) (by assumption) ?rD10
        case hiD10 => (simp only [List.getElem?_toArray, List.getElem?_cons_succ, List.getElem?_cons_zero]; try rfl)
        case wD10 => rfl
        case yD10 => (intro w hSw; (try dsimp only at hSw); go_simp; (try with_reducible rfl))
        (try simp only [Act.put, List.setIfInBounds_toArray, List.set_cons_zero, List.set_cons_succ])
        refine wpAnyH_done (by kernel_rfl) ?_ _
        refine NoPanic.normal ?_
        all_goals
          have hZ9 := HRES.out _ KC.out
          obtain ⟨q0, q1, q2, q3, q4, q5⟩ := HC.out _ KC.out
          have y0 := free_of_heap hZ9 0
          have y1 := free_of_heap hZ9 1
          have y2 := free_of_heap hZ9 2
          have y3 := free_of_heap hZ9 3
          have y4 := free_of_heap hZ9 4
          have y5 := free_of_heap hZ9 5
          have hp6 := pk_set hZ9 (KA.out.trans' KC.out) HZZ.out xk xf xt xd xn xy
          have z0 := cell_of_heap hZ9 0
          have z1 := cell_of_heap hZ9 1
          have z2 := cell_of_heap hZ9 2
          have z3 := cell_of_heap hZ9 3
          have z4 := cell_of_heap hZ9 4
          have z5 := cell_of_heap hZ9 5
          simp [pkC] at z0 z1 z2 z3 z4 z5
          have HZ9 := Lib.hid hZ9; have HP6 := Lib.hid hp6
          clear hZ9 hp6
          go_wp2_with fail
          refine bodyPost_ret (results_pk rfl _ _ Z _ _ _ rfl HP6.out.1 rfl) rfl ?_
          unfold WDecPost
          have hdp : decPk l = ⟨xk, xf, xt, xd, xn, xy⟩ := by unfold decPk; rw [HDF.out, HB.out, ← HRD.out]; rfl
          rw [hdp, HDF.out]
          exact ⟨rfl, HP6.out.2⟩
theorem wdec_at (ao : Option Addr) (n cp : Nat) (l : List UInt8) (w : World) (h : SlB w ao cp l) (hn : l.length = n) (hb : ∀ g, blockOf ao = some g → g < w.heap.size) :
    Calls Tryz.prog 18 #[.slice ao n cp] w (WDecPost w l) := by
  by_cases h4 : n < 4
  · exact wdec_short ao n cp l w hn h4
  · exact wdec_long ao n cp l w h hn (by omega) hb
end Go.Proofs.YtlabhbjampkhpaaGreat
end
