/- ByteCut: the law returns true and changes nothing that was there. No conditions. -/
import Derived.Test.YtdipknkajmoldaaLawBase
import Derived.Test.YtdipknkajmoldaaOps
import Derived.Test.YtdipknkajmoldaaRows
import Derived.WalkKit
import Derived.ProofKit
import Derived.OpenShut
import Derived.ShutString
import Derived.ChangeOld
import Derived.Below
namespace Go.Proofs.Ytdipknkajmoldaa.byteCut
open Go Go.ChangeShapes Go.WideShapes Go.ChangeAt Go.RowKit
open Go.ChangeMaps (open_string shut_string)

theorem own : ownKnob Try.prog.godebug = none := by kernel_rfl
theorem laidOut : laidOutB Try.prog = true := by kernel_rfl

theorem open_arg0 {H : Type} {enc : TypeId × Value → H} {a : Option Addr} {len cap : Nat} {d : DataW H} {p : List MemPlace} (W : World) (_base : Nat)
    (h : DataW.Trod enc Try.prog W 0 (fun _ => true) true 22 (.slice a len cap) d p) : ∃ z, IsOps W a len cap z := open_ops h

theorem infoI64 : (Try.prog.info? 3).map (fun i => (i.zero, i.size, i.bytes)) = some (some (.int .i64 0), 1, 8) := by kernel_rfl
def ivs (l : List Int) : List Value := l.map (.int .i64)
def OwnI (w : World) (v : Value) (l : List Int) : Prop := w.ownsRow 0 3 1 v l.length (ivs l)
def SlN (w : World) (ao : Option Addr) (cp : Nat) (l : List Int) : Prop :=
  l.length ≤ cp ∧ cp ≤ maxLen ∧ ∀ i (h : i < l.length), ∃ g off, ao = some ⟨g, off, none⟩ ∧ w.cell? ⟨g, off + i, none⟩ = some (.int .i64 l[i])
theorem OwnI.sl {w : World} {v : Value} {l : List Int} (hown : OwnI w v l) : ∃ ao cp, v = .slice ao l.length cp ∧ SlN w ao cp l ∧ blockOf ao = v.ownBlock := by
  rcases hown.2 with ⟨rfl, h0⟩ | ⟨g, cap, cur, rfl, _, hg, hnc, hcm, hcs, htake⟩
  · have hl : l = [] := List.eq_nil_of_length_eq_zero h0
    subst hl
    exact ⟨none, 0, rfl, ⟨by simp, by simp, by simp⟩, rfl⟩
  · refine ⟨some ⟨g, 0, none⟩, cap, rfl, ⟨hnc, hcm, fun i hi => ⟨g, 0, rfl, ?_⟩⟩, rfl⟩
    rw [cell_of_heap hg, Nat.zero_add]
    have h1 : (cur.toList.take (l.length * 1))[i]? = (ivs l)[i]? := by rw [htake]
    rw [List.getElem?_take_of_lt (by omega)] at h1
    rw [← Array.getElem?_toList, h1]
    simp [ivs, List.getElem?_eq_getElem hi]
theorem OwnI.keep {F : Nat → Prop} {w w' : World} {v : Value} {l : List Int} (h : OwnI w v l) (hk : Keep F w w') (hn : ∀ k, v.ownBlock = some k → ¬ F k) : OwnI w' v l := by
  refine ⟨h.1, ?_⟩
  rcases h.2 with h0 | ⟨g, cap, cur, rfl, hb, hg, rest⟩
  · exact .inl h0
  · refine .inr ⟨g, cap, cur, rfl, hb, ?_, rest⟩
    rw [hk.block g (lt_of_heap hg) (hn g rfl)]; exact hg
theorem OwnI.lt {w : World} {v : Value} {l : List Int} (h : OwnI w v l) : ∀ k, v.ownBlock = some k → k < w.heap.size := fun k hk => (World.ownsRow.lt h k hk).2
theorem SlN.keep {F : Nat → Prop} {w w' : World} {ao : Option Addr} {cp : Nat} {l : List Int} (h : SlN w ao cp l) (hk : Keep F w w') (hn : ∀ g, blockOf ao = some g → ¬ F g) : SlN w' ao cp l := by
  refine ⟨h.1, h.2.1, fun i hi => ?_⟩
  obtain ⟨g, off, rfl, hc⟩ := h.2.2 i hi
  exact ⟨g, off, rfl, hk.cell' hc (hn g rfl)⟩

/-- Where the values end. -/
def endAt (z : Nat → OpV) (j : Nat) : Nat := (opsFrom z 0 j).length
def endsL (z : Nat → OpV) (k : Nat) : List Int := (List.range k).map fun i => ((endAt z (i + 1) : Nat) : Int)
theorem endsL_length (z : Nat → OpV) (k : Nat) : (endsL z k).length = k := by simp [endsL]
theorem endsL_snoc (z : Nat → OpV) (k : Nat) : endsL z (k + 1) = endsL z k ++ [((endAt z (k + 1) : Nat) : Int)] := by simp [endsL, List.range_succ]
theorem endsL_get (z : Nat → OpV) (k i : Nat) (h : i < (endsL z k).length) : (endsL z k)[i] = ((endAt z (i + 1) : Nat) : Int) := by simp [endsL]
theorem endAt_succ (z : Nat → OpV) (j : Nat) : endAt z (j + 1) = endAt z j + (opB (z j)).length := by
  unfold endAt; rw [opsFrom_snoc z 0 j (Nat.zero_le _), List.length_append]
theorem endAt_mono (z : Nat → OpV) {i j : Nat} (h : i ≤ j) : endAt z i ≤ endAt z j := by
  induction j with
  | zero => obtain rfl : i = 0 := by omega
            exact Nat.le_refl _
  | succ j ih =>
    by_cases hi : i = j + 1
    · subst hi; exact Nat.le_refl _
    · rw [endAt_succ]; have := ih (by omega); omega
theorem endAt_le (z : Nat → OpV) (j : Nat) : endAt z j ≤ 62 * j := by have := opsFrom_length z 0 j (Nat.zero_le _); unfold endAt; omega
theorem endAt_zero (z : Nat → OpV) : endAt z 0 = 0 := by unfold endAt; rw [opsFrom_self]; rfl

/-- What is left of the first kk bytes behind j values. -/
def cutFrom (z : Nat → OpV) (m kk j : Nat) : List UInt8 := ((opsFrom z 0 m).take kk).drop (endAt z j)
theorem all_split (z : Nat → OpV) (m j : Nat) (hj : j < m) : opsFrom z 0 m = opsFrom z 0 j ++ (opB (z j) ++ opsFrom z (j + 1) m) := by
  induction m with
  | zero => omega
  | succ m ih =>
    rw [opsFrom_snoc z 0 m (Nat.zero_le _)]
    by_cases h : j = m
    · subst h; rw [opsFrom_self, List.append_nil]
    · rw [ih (by omega), opsFrom_snoc z (j + 1) m (by omega)]; simp
theorem cut_whole (z : Nat → OpV) (m kk j : Nat) (hj : j < m) (hk : endAt z (j + 1) ≤ kk) : cutFrom z m kk j = opB (z j) ++ cutFrom z m kk (j + 1) := by
  unfold cutFrom
  have hs := endAt_succ z j
  have e1 : (opsFrom z 0 j).length = endAt z j := rfl
  rw [all_split z m j hj, List.take_append, List.take_of_length_le (by omega : (opsFrom z 0 j).length ≤ kk), List.take_append, List.take_of_length_le (by omega : (opB (z j)).length ≤ kk - (opsFrom z 0 j).length)]
  rw [← e1, List.drop_left]
  have e2 : endAt z (j + 1) = (opsFrom z 0 j ++ opB (z j)).length := by rw [List.length_append]; omega
  rw [e2, ← List.append_assoc, List.drop_left]
theorem cut_part (z : Nat → OpV) (m kk j : Nat) (hj : j < m) (hk0 : endAt z j ≤ kk) (hk : kk < endAt z (j + 1)) : cutFrom z m kk j = (opB (z j)).take (kk - endAt z j) := by
  unfold cutFrom
  have hs := endAt_succ z j
  have e1 : (opsFrom z 0 j).length = endAt z j := rfl
  rw [all_split z m j hj, List.take_append, List.take_of_length_le (by omega : (opsFrom z 0 j).length ≤ kk), ← e1, List.drop_left, List.take_append_of_le_length (by omega)]
theorem rdS_short {k : Nat} {l : List UInt8} (h : l.length < k) : rdS k (some l) = none := by simp only [rdS]; rw [if_neg (by omega)]
theorem one_cut (x : OpV) (n : Nat) (hn : n < (opB x).length) : oneS x (some ((opB x).take n)) = none := by
  have hl : ((opB x).take n).length = n := by rw [List.length_take]; omega
  unfold oneS
  by_cases k0 : x.kind = 0
  · have e : opB x = smallB x.n := by simp [opB, k0]
    rw [if_pos k0]
    rw [e, smallB_length] at hn
    exact rdS_short (by omega)
  · rw [if_neg k0]
    by_cases k1 : x.kind = 1
    · have e : opB x = longB x.n := by simp [opB, k1]
      rw [if_pos k1]
      rw [e, longB_length] at hn
      exact rdS_short (by omega)
    · rw [if_neg k1]
      by_cases k2 : x.kind = 2
      · have e : opB x = textB (cutS x.s 60).data.toList := by simp [opB, k2]
        rw [if_pos k2]
        have hs := cutS_size x.s 60
        generalize (cutS x.s 60).data.toList = s at e
        have hsl : s.length % 65536 ≤ s.length := Nat.mod_le _ _
        rw [e, textB_length] at hn
        rw [e, textB]
        unfold rdTs
        by_cases h2 : n < 2
        · rw [rdS_short (by rw [List.length_take, List.length_append, smallB_length]; omega)]; rfl
        · rw [List.take_append, List.take_of_length_le (by rw [smallB_length]; omega)]
          obtain ⟨h3, h4⟩ := rd_small ((s.length % 65536 : Nat) : Int) ((s.take (s.length % 65536)).take (n - (smallB ((s.length % 65536 : Nat) : Int)).length))
          rw [h3, h4]
          have e3 : (((s.length % 65536 : Nat) : Int) % 65536).toNat = s.length % 65536 := by omega
          rw [e3]
          exact rdS_short (by rw [List.length_take, smallB_length]; omega)
      · have e : opB x = truthB (decide (x.n % 2 = 1)) := by simp [opB, k0, k1, k2]
        rw [if_neg k2]
        rw [e, truthB_length] at hn
        obtain rfl : n = 0 := by omega
        rw [List.take_zero]
        rfl

/-- Two rows that are the call's own, beside one another. -/
structure CutI (w wr : World) (v : Value) (l : List UInt8) (u : Value) (es : List Int) : Prop where
  own : OwnB wr v l
  ints : OwnI wr u es
  keep : Keep NoF w wr
  vn : ∀ j, v.ownBlock = some j → w.heap.size ≤ j
  un : ∀ j, u.ownBlock = some j → w.heap.size ≤ j
  ap : ∀ j, v.ownBlock = some j → u.ownBlock ≠ some j

theorem CutI.bytes {w wr w2 w3 : World} {v v3 : Value} {l b : List UInt8} {u : Value} {es : List Int} (h : CutI w wr v l u es) (hk : Keep NoF wr w2) (h3 : OwnB w3 v3 (l ++ b)) (g3 : w2.grownBy w3 v.ownBlock)
    (f3 : v3.ownBlock = v.ownBlock ∨ v3.ownBlock = some w2.heap.size) : CutI w w3 v3 (l ++ b) u es := by
  have hs := h.keep.size
  have hs1 := hk.size
  have hU := h.ints.lt
  refine ⟨h3, ?_, (h.keep.trans' hk).grown g3 (fun k hk e => by have := h.vn k e; omega), ?_, h.un, ?_⟩
  · refine (h.ints.keep hk (fun _ _ f => f)).keep (F := fun k => v.ownBlock = some k) ((Keep.refl _ _).grown g3 (fun k _ e => e)) ?_
    intro k hk e; exact h.ap k e hk
  · intro j hj
    rcases f3 with f | f <;> rw [f] at hj
    · exact h.vn j hj
    · injection hj with hj; omega
  · intro j hj e
    rcases f3 with f | f <;> rw [f] at hj
    · exact h.ap j hj e
    · injection hj with hj; have := hU j e; omega
theorem CutI.nums {w wr w2 w3 : World} {v : Value} {l : List UInt8} {u u3 : Value} {es es3 : List Int} (h : CutI w wr v l u es) (hk : Keep NoF wr w2) (h3 : OwnI w3 u3 es3) (g3 : w2.grownBy w3 u.ownBlock)
    (f3 : u3.ownBlock = u.ownBlock ∨ ∀ k, u3.ownBlock = some k → wr.heap.size ≤ k) : CutI w w3 v l u3 es3 := by
  have hs := h.keep.size
  have hs1 := hk.size
  have hV := h.own.lt
  refine ⟨?_, h3, (h.keep.trans' hk).grown g3 (fun k hk e => by have := h.un k e; omega), h.vn, ?_, ?_⟩
  · refine (h.own.keep hk (fun _ _ f => f)).keep (F := fun k => u.ownBlock = some k) ((Keep.refl _ _).grown g3 (fun k _ e => e)) ?_
    intro k hk e; exact h.ap k hk e
  · intro j hj
    rcases f3 with f | f
    · rw [f] at hj; exact h.un j hj
    · have := f j hj; omega
  · intro j hj e
    rcases f3 with f | f
    · rw [f] at e; exact h.ap j hj e
    · have := f j e; have := hV j hj; omega

set_option maxHeartbeats 8000000 in
theorem walk (w : World) (a0 : Option Addr) (len0 cap0 : Nat) (z : Nat → OpV) (h0 : IsOps w a0 len0 cap0 z) (cut : Int) (hcut : (Lit.int .i64 cut).wf = true) :
    Calls Try.prog 11 #[.slice a0 len0 cap0, .int .i64 cut] w fun e w' => e = .returned (.bool true) ∧ Keep NoF w w' := by
  have H0 := Lib.hid h0
  have bcut := bounds_i64 hcut
  have hl := h0.1
  have hm := h0.2.1
  unfold maxLen at hm
  have hlen : len0 ≤ 9223372036854775807 := by omega
  clear h0 hl hm hcut
  go_enter Try.func11, Try.ntmps11
  go_wp2_with fail
  refine (begun_any w).mono ?_
  rintro e w1 ⟨rfl, hk⟩
  have hI : CutI w w1 (.slice none 0 0) [] (.slice none 0 0) [] := ⟨OwnB.nil _, World.ownsRow_nil _ _ _ _, hk, nofun, nofun, nofun⟩
  have HI0 := Lib.hid hI; clear hk hI
  go_wp2_with fail
  go_loopw [6, 7, 8] (fun vv uv iv wr => ∃ k : Nat, k ≤ len0 ∧ k ≤ 15 ∧ iv = .int .i64 k ∧ CutI w wr vv (opsFrom z 0 k) uv (endsL z k)) (fun _ _ iv _ => len0 - (intOf iv).toNat)
  case atStart => exact ⟨0, Nat.zero_le _, by omega, rfl, by rw [opsFrom_self]; exact HI0.out⟩
  case round =>
    obtain ⟨k, hk, hk15, rfl, hI⟩ := hrel
    have HI := Lib.hid hI; clear hI HI0
    have hln := endAt_le z k
    have HLn : Hid (endAt z k ≤ 930) := Lib.hid (by omega)
    clear hln
    by_cases hgo : k < len0 ∧ k < 15
    · obtain ⟨hlt, h15⟩ := hgo
      obtain ⟨hX, gk, ok, rfl, c0, c1, c2⟩ := (H0.out.keep HI.out.keep).2.2 k hlt
      have HX := Lib.hid hX; clear hX
      have hj1 : (k : Int) < len0 := by omega
      have hj2 : (k : Int) < 15 := by omega
      go_wp2_with fail
      refine (bytes_any (z k) HX.out _).mono ?_
      rintro e w3 ⟨v3, rfl, hO5, hK5, hF5⟩
      have K5 := Lib.hid hK5
      have hO3 := HI.out.own.keep K5.out (fun _ _ f => f)
      unfold OwnB at hO3
      obtain ⟨ao5, cp5, rfl, sl5, bk5⟩ := hO5.slb
      have hl3 : (opsFrom z 0 k).length + (opB (z k)).length ≤ 10000 := by have := (opB_length (z k)).1; have := HLn.out; unfold endAt at this; omega
      have hsrc3 := OwnB.src (P := Try.prog) sl5 rfl (t := 25) Try.underlying25
      clear hO5 hK5 hF5 sl5 bk5 c0 c1 c2
      go_wp2_with (at_builtin; refine wpList_app 25 25 5 (.int .u8 0) 1 1 Try.underlying25 infoU8 rfl (by decide) (by decide) rfl rfl rfl rfl hO3 hsrc3 (by omega) ?_)
      intro ao4 cp4 w4 hown4 hgr4 hfr4
      have hI4 := HI.out.bytes K5.out (OwnB.of_app hown4 rfl rfl rfl rfl) hgr4 hfr4
      have e4 : (opsFrom z 0 k).length + (opB (z k)).length = endAt z (k + 1) := by rw [endAt_succ]; rfl
      rw [← opsFrom_snoc z 0 k (Nat.zero_le _), e4] at hI4
      rw [e4]
      have HI4 := Lib.hid hI4
      have hend : endAt z (k + 1) ≤ 10000 := by have := endAt_le z (k + 1); omega
      have hui := hI4.ints
      unfold OwnI at hui
      rw [endsL_length] at hui
      clear hown4 hgr4 hfr4 hO3 hsrc3 hI4 hl3 e4
      go_wp2_with (at_builtin; refine wpList_app 41 41 3 (.int .i64 0) 1 8 Try.underlying41 infoI64 rfl (by decide) (by decide) rfl rfl rfl rfl (hui.alloc _) (Src.one Try.underlying41 (heap_new _ _) rfl 1) (by omega) ?_)
      intro ao6 cp6 w6 hown6 hgr6 hfr6
      have hOI : OwnI w6 (.slice ao6 (k + 1) cp6) (endsL z (k + 1)) := by
        rw [OwnI, endsL_length, endsL_snoc, ivs, List.map_append]
        exact hown6
      have hI6 := HI4.out.nums ((Keep.refl NoF w4).alloc _) hOI hgr6 (by
        rcases hfr6 with h | h
        · exact .inl h
        · refine .inr fun k hk => ?_
          rw [h] at hk
          injection hk with hk
          omega)
      have HI6 := Lib.hid hI6
      clear hown6 hgr6 hfr6 hui hOI hI6
      go_wp2_with fail
      go_roundw
      case rel => exact ⟨k + 1, by omega, by omega, by go_num, HI6.out⟩
      case measure => simp [intOf]; omega
    · have hx : (len0 : Int) ≤ k ∨ ((k : Int) < len0 ∧ (15 : Int) ≤ k) := by omega
      obtain ⟨ao, cp, rfl, hsl, hbk⟩ := HI.out.own.slb
      obtain ⟨ai, ci, rfl, hsi, hbi⟩ := HI.out.ints.sl
      have hlt : ∀ g, blockOf ao = some g → g < wr.heap.size := fun g hg => HI.out.own.lt g (hbk ▸ hg)
      have HAI : Hid (∀ g, blockOf ai = some g → g < wr.heap.size) := fun g hg => HI.out.ints.lt g (hbi ▸ hg)
      rw [endsL_length]
      have e1 : (opsFrom z 0 k).length = endAt z k := rfl
      rw [e1]
      have HSL := Lib.hid hsl; have HSI := Lib.hid hsi; have HLT := Lib.hid hlt
      have HK : Hid (Keep NoF w wr) := HI.out.keep
      have HSZ : Hid (w.heap.size ≤ wr.heap.size) := HI.out.keep.size
      have hcap : endAt z k ≤ cp := hsl.1
      have hcap2 := hsl.2.1
      unfold maxLen at hcap2
      clear hsl hsi hlt hbk hbi e1 HI
      have hend := HLn.out
      rcases hx with hx | ⟨hx1, hx2⟩
      all_goals
        by_cases hneg : cut < 0
        · clear hgo
          go_wp2_with fail
          go_ret
          exact ⟨rfl, HK.out⟩
        · have hneg2 : 0 ≤ cut := by omega
          clear hneg
          by_cases hz : endAt z k = 0
          · rw [hz] at hcap hend ⊢
            clear hgo
            go_wp2_with fail
            go_ret
            exact ⟨rfl, HK.out⟩
          · have hz0 : 0 < endAt z k := by omega
            have hz1 : (((endAt z k : Nat) : Int) == 0) = false := by simp; exact hz
            obtain ⟨c, rfl⟩ : ∃ c : Nat, cut = c := ⟨cut.toNat, by omega⟩
            have hmod : (c : Int).tmod ((endAt z k : Nat) : Int) = ((c % endAt z k : Nat) : Int) := rfl
            obtain ⟨q, hq⟩ : ∃ q, c % endAt z k = q := ⟨_, rfl⟩
            have hqlt : q < endAt z k := by rw [← hq]; exact Nat.mod_lt _ hz0
            rw [hq] at hmod
            have hqcp : (q : Int) ≤ cp := by omega
            have HZ1 := Lib.hid hz
            obtain ⟨E, hE⟩ : ∃ E, endAt z k = E := ⟨_, rfl⟩
            rw [hE] at hz1 hmod hqlt hcap hend hz0 ⊢
            have HE := Lib.hid hE
            clear hq hgo hz hE
            go_wp2_with fail
            have hrd := read_any ao cp ((opsFrom z 0 k).take q) wr (HSL.out.take q) HLT.out
            have hlq : ((opsFrom z 0 k).take q).length = q := by rw [List.length_take]; have := HE.out; unfold endAt at this; omega
            rw [hlq] at hrd
            refine hrd.mono ?_
            rintro e w5 ⟨rfl, hR5, hk5⟩
            have K5 := Lib.hid (HK.out.trans' hk5)
            have HR5 : Hid (InR w5 wr.heap.size (blockOf ao) (some (cutFrom z k q 0))) := by
              have e : cutFrom z k q 0 = (opsFrom z 0 k).take q := by unfold cutFrom; rw [endAt_zero, List.drop_zero]
              rw [e]; exact hR5
            have HSI5 := Lib.hid (HSI.out.keep hk5 (fun _ _ f => f))
            have HAQ : Hid (∀ g, blockOf ai = some g → ¬ g = wr.heap.size) := fun g hg => by have := HAI.out g hg; omega
            clear hR5 hk5 hrd hlq hmod HSI HSL HLT HAI
            generalize wr.heap.size = Q at HR5 HSZ HAQ ⊢
            generalize blockOf ao = gg at HR5
            go_wp2_with fail
            go_loopw [11] (fun iv wx => ∃ j : Nat, j < k ∧ iv = .int .i64 j ∧ InR wx Q gg (some (cutFrom z k q j)) ∧ endAt z j ≤ q ∧ SlN wx ai ci (endsL z k) ∧ Keep NoF w wx) (fun iv _ => k - (intOf iv).toNat)
            case atStart => exact ⟨0, by rcases Nat.eq_zero_or_pos k with h | h; (have := HE.out; rw [h, endAt_zero] at this; omega); exact h, rfl, HR5.out, by rw [endAt_zero]; omega, HSI5.out, K5.out⟩
            case round =>
              obtain ⟨j, hj, rfl, hR, hej, hS, hKw⟩ := hrel
              have HRj := Lib.hid hR; have HSj := Lib.hid hS; have HEj := Lib.hid hej; have HKw := Lib.hid hKw
              clear hR hS hej hKw HR5 K5 HSI5
              obtain ⟨gi, oi, rfl, ci1⟩ := HSj.out.2.2 j (by rw [endsL_length]; exact hj)
              rw [endsL_get] at ci1
              have hjk : (j : Int) < k := by omega
              have hci := HSj.out.1
              have hci2 := HSj.out.2.1
              rw [endsL_length] at hci
              unfold maxLen at hci2
              by_cases hin : endAt z (j + 1) ≤ q
              · obtain ⟨hX, gk, ok, rfl, c0, c1, c2⟩ := (H0.out.keep HKw.out).2.2 j (by omega)
                have HX := Lib.hid hX; clear hX
                have hin2 : ((endAt z (j + 1) : Nat) : Int) ≤ q := by omega
                have HIn := Lib.hid hin
                have hjn : j + 1 < k := by
                  rcases Nat.lt_or_ge (j + 1) k with h | h
                  · exact h
                  · have := endAt_mono z h; have := HE.out; omega
                obtain ⟨E1, hE1⟩ : ∃ E1, endAt z (j + 1) = E1 := ⟨_, rfl⟩
                rw [hE1] at ci1 hin2
                have hE1b : E1 ≤ 10000 := by rw [← hE1]; exact Nat.le_trans hin (by omega)
                clear hin hE1
                go_wp2_with fail
                refine (one_any Q gg _ (z j) HX.out _ HRj.out).mono ?_
                rintro e w6 ⟨rfl, hR6, hk6⟩
                rw [cut_whole z k q j hj HIn.out] at hR6 ⊢
                obtain ⟨o1, o2⟩ := one_put (z j) HX.out (cutFrom z k q (j + 1))
                rw [o2] at hR6
                rw [o1]
                have HR6 := Lib.hid hR6; have HK6 := Lib.hid hk6
                clear hR6 hk6 o1 o2 c0 c1 c2 ci1
                go_wp2_with fail
                refine (inbad_any Q gg _ _ HR6.out).mono ?_
                rintro e w7 ⟨rfl, rfl⟩
                rw [show (some (cutFrom z k q (j + 1))).isNone = false from rfl]
                go_wp2_with fail
                go_roundw
                case rel => exact ⟨j + 1, hjn, by go_num, HR6.out, HIn.out, HSj.out.keep HK6.out HAQ.out, HKw.out.trans HK6.out (fun _ _ f => f) (fun i hi f => by have := HSZ.out; omega)⟩
                case measure => simp [intOf]; omega
              · have hin2 : (q : Int) < ((endAt z (j + 1) : Nat) : Int) := by omega
                have HIn := Lib.hid hin
                obtain ⟨E1, hE1⟩ : ∃ E1, endAt z (j + 1) = E1 := ⟨_, rfl⟩
                rw [hE1] at ci1 hin2
                have hE1b : E1 ≤ 10000 := by rw [← hE1]; have := endAt_le z (j + 1); omega
                clear hin hE1
                go_wp2_with fail
                go_loopw [12] (fun iv wx => ∃ i : Nat, i ≤ j ∧ iv = .int .i64 i ∧ wx = wr) (fun iv _ => k - (intOf iv).toNat)
                case atStart => exact ⟨0, Nat.zero_le _, rfl, rfl⟩
                case round =>
                  obtain ⟨i, hi, rfl, rfl⟩ := hrel
                  by_cases hij : i = j
                  · subst hij
                    obtain ⟨hX, gk, ok, rfl, c0, c1, c2⟩ := (H0.out.keep HKw.out).2.2 i (by omega)
                    have HX := Lib.hid hX; clear hX
                    go_wp2_with fail
                    refine (one_any Q gg _ (z i) HX.out _ HRj.out).mono ?_
                    rintro e w6 ⟨rfl, hR6, hk6⟩
                    rw [cut_part z k q i hj HEj.out (by have := HIn.out; omega), one_cut (z i) _ (by have := HIn.out; have := endAt_succ z i; have := HEj.out; omega)] at hR6
                    have HR6 := Lib.hid hR6; have HK6 := Lib.hid hk6
                    clear hR6 hk6 c0 c1 c2 ci1
                    go_wp2_with fail
                    refine (inbad_any Q gg _ _ HR6.out).mono ?_
                    rintro e w7 ⟨rfl, rfl⟩
                    rw [show (none : Option (List UInt8)).isNone = true from rfl]
                    go_wp2_with fail
                    refine (inend_any Q gg _ _ HR6.out).mono ?_
                    rintro e w7 ⟨rfl, rfl⟩
                    rw [show endOf (none : Option (List UInt8)) = false from rfl]
                    go_wp2_with fail
                    refine (inleft_any Q gg _ _ HR6.out).mono ?_
                    rintro e w7 ⟨rfl, rfl⟩
                    rw [show ((leftOf (none : Option (List UInt8)) : Nat) : Int) = 0 from rfl]
                    go_wp2_with fail
                    refine (insmall_any Q gg _ _ HR6.out).mono ?_
                    rintro e w7 ⟨rfl, hR7, hk7⟩
                    rw [show ((rdN 2 (none : Option (List UInt8)) : Nat) : Int) = 0 from rfl]
                    have HK7 := Lib.hid hk7
                    clear hR7 hk7
                    go_wp2_with fail
                    go_ret
                    exact ⟨rfl, HKw.out.trans (HK6.out.trans' HK7.out) (fun _ _ f => f) (fun i hi f => by have := HSZ.out; omega)⟩
                  · obtain ⟨gi2, oi2, e2, ci2⟩ := HSj.out.2.2 i (by rw [endsL_length]; omega)
                    injection e2 with e2; injection e2 with e2 e3; subst e2 e3
                    rw [endsL_get] at ci2
                    have hle : ((endAt z (i + 1) : Nat) : Int) ≤ q := by have := endAt_mono z (show i + 1 ≤ j by omega); have := HEj.out; omega
                    have hik : (i : Int) < k := by omega
                    obtain ⟨E2, hE2⟩ : ∃ E2, endAt z (i + 1) = E2 := ⟨_, rfl⟩
                    rw [hE2] at ci2 hle
                    clear hE2 ci1
                    go_wp2_with fail
                    go_roundw
                    case rel => exact ⟨i + 1, by omega, by go_num, trivial⟩
                    case measure => simp [intOf]; omega

set_option linter.unusedVariables false
set_option maxRecDepth 100000 in
theorem lifted (os : Os) (started : os.Started) (H : Type) (enc : TypeId × Value → H) :
    ReturnsInHanded {} Try.checked os 11 .any (Rows.byteCutSpec.pre6 enc Try.prog Try.f11 Rows.byteCutRow.domain false) (Rows.byteCutSpec.post enc Try.prog Try.f11 false true false false) := by
  refine returnsInHanded_of_change (C := Try.checked) own started (by kernel_rfl) Try.func11
    (ChangeSpec.witness6 (enc := enc) (C := Try.checked) false ⟨#[], #[.slice none 0 0, .int .i64 0], []⟩ 8 (by kernel_rfl) (by kernel_rfl) (by kernel_rfl) (by kernel_rfl)) ?_
  intro W base args ds gs before hval0 hW hcnd _
  have hval : ∀ (j : Nat) t v, Try.f11.params[j]? = some t → args[j]? = some v → Value.okWide Try.prog W .any base t v := hval0
  have hW' := hW
  obtain ⟨p, q, hA0, hV, rfl, hfz, hnd⟩ := hW
  have hA : DataW.TrodAll enc Try.prog W 0 (fun _ => true) true Try.f11.params.toList args.toList ds p := hA0
  rw [Try.params11] at hA hval
  obtain ⟨v0, vs0, d0, ds0, p0, q0, hargs, rfl, rfl, h0, r0⟩ := trodAll_cons hA
  obtain ⟨v1, vs1, d1, ds1, p1, q1, rfl, rfl, rfl, h1, r1⟩ := trodAll_cons r0
  obtain ⟨rfl, rfl, rfl⟩ := trodAll_nil r1
  obtain rfl : args = #[v0, v1] := by cases args; simp_all
  obtain ⟨rfl, rfl⟩ := trodVars_none hV
  obtain ⟨a0, len0, cap0, rfl⟩ := okWide_slice Try.underlying22 (hval 0 22 v0 rfl rfl)
  have k0 := h0
  have lt0 : ∀ x ∈ p0, x.block < W.heap.size := by obtain ⟨m, hm⟩ := k0; exact DataW.trod_lt m _ _ _ hm
  obtain ⟨z0, w0⟩ := open_arg0 W base h0
  obtain ⟨a1, rfl, rfl, rfl, w1⟩ := open_int Try.underlying3 (hval 1 3 v1 rfl rfl) h1
  clear hA0 hval0
  refine (walk W a0 len0 cap0 z0 w0 a1 w1).mono fun e W' ⟨he, hk⟩ => ?_
  subst he
  have bel := Keep.below hk
  exact ⟨_, rfl, _, _, _, [], _, [], hW', trodAll_mk1 (shut_bool Try.underlying4 _), (trodAll_cons_mk (Below.trod laidOut (by kernel_rfl) (of_decide_eq_true (by kernel_rfl)) k0 bel lt0) (trodAll_cons_mk (shut_int Try.underlying3 w1) trodAll_mk0)), rfl, bel.frame _, fun h => by cases h⟩

theorem over : Rows.byteCutRow.holds Try.pinned (OpenSpec.ofChange Rows.byteCutSpec) :=
  OpenClaim.holds_of_wide 11 Try.f11 rfl rfl rfl rfl rfl rfl rfl ⟨rfl, rfl, rfl, rfl, rfl⟩ rfl rfl rfl rfl rfl (by kernel_rfl) Try.func11 (by kernel_rfl)
    (of_decide_eq_true (by kernel_rfl)) (by unfold Func.isWrapper; rw [if_neg (of_decide_eq_false (by kernel_rfl))]; exact ⟨rfl, rfl⟩)
    (fun os started H enc _ => lifted os started H enc)

/-- The statement. -/
theorem proved : Rows.ByteCutSaid := over
#print axioms proved
end Go.Proofs.Ytdipknkajmoldaa.byteCut
