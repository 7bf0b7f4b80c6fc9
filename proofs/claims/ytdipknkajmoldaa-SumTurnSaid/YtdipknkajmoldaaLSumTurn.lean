/- SumTurn: the law returns true and changes nothing that was there. No conditions. -/
import Derived.Test.YtdipknkajmoldaaRefSum
import Derived.Test.YtdipknkajmoldaaTurn
import Derived.Test.YtdipknkajmoldaaRows
import Derived.WalkKit
import Derived.ProofKit
import Derived.OpenShut
import Derived.ShutString
import Derived.ChangeOld
import Derived.Below
namespace Go.Proofs.Ytdipknkajmoldaa.sumTurn
open Go Go.ChangeShapes Go.WideShapes Go.ChangeAt Go.RowKit
open Go.ChangeMaps (open_string shut_string)

theorem own : ownKnob Try.prog.godebug = none := by kernel_rfl
theorem laidOut : laidOutB Try.prog = true := by kernel_rfl

set_option maxHeartbeats 1500000 in
theorem walk (w : World) (a0 : Option Addr) (len0 cap0 : Nat) (z0 : List Int) (h0 : IsRow .u8 w a0 len0 cap0 z0) (at_ : Int) (hat : (Lit.int .i64 at_).wf = true) (bs : Int) (hbs : (Lit.int .u32 bs).wf = true) :
    Calls Try.prog 8 #[.slice a0 len0 cap0, .int .i64 at_, .int .u32 bs] w fun e w' => e = .returned (.bool true) ∧ Keep NoF w w' := by
  obtain ⟨l0, hl0, s0⟩ := h0.slb
  have S0 := Lib.hid s0; have E0 := Lib.hid hl0
  have ba := bounds_i64 hat
  obtain ⟨bits_, rfl, hb32⟩ : ∃ n : Nat, bs = n ∧ n < 4294967296 := by
    have := bounds_u32 hbs; exact ⟨bs.toNat, by omega, by omega⟩
  clear s0 hl0 h0 hat hbs
  go_enter Try.func8, Try.ntmps8
  go_wp2_with fail
  refine (begun_any w).mono ?_
  rintro e w1 ⟨rfl, hk⟩
  have K1 := Lib.hid hk; clear hk
  go_wp2_with fail
  refine (short_at a0 len0 cap0 l0 80 w1 (S0.out.keep K1.out (fun _ _ f => f)) E0.out (by decide) (by decide)).mono ?_
  rintro e w2 ⟨v, rfl, hO, hk, hf⟩
  have K2 := Lib.hid (K1.out.trans' hk)
  have hp80 : (l0.take (Int.toNat 80)).length ≤ 80 := by rw [List.length_take]; exact Nat.min_le_left _ _
  generalize l0.take (Int.toNat 80) = p at hO hp80
  obtain ⟨ao1, cp1, rfl, sp, bp⟩ := hO.slb
  have SP := Lib.hid sp
  have hblk := hO.lt
  have HB := Lib.hid hblk
  clear hk hO hf sp hblk
  by_cases hp0 : p.length = 0
  · have e0 : ((p.length : Int) == 0) = true := by rw [hp0]; rfl
    clear hp0 bp
    go_wp2_with fail
    go_ret
    exact ⟨rfl, K2.out⟩
  · have e0 : ((p.length : Int) == 0) = false := by simp; intro h; exact hp0 (by rw [h]; rfl)
    have hp1 : 0 < p.length := by omega
    clear hp0
    by_cases hneg : at_ < 0
    · clear bp
      go_wp2_with fail
      go_ret
      exact ⟨rfl, K2.out⟩
    · obtain ⟨A, rfl⟩ : ∃ A : Nat, at_ = A := ⟨at_.toNat, by omega⟩
      have hneg2 : (0 : Int) ≤ A := by omega
      obtain ⟨r, hr⟩ : ∃ r : Nat, (A : Int) % (8 * (p.length : Int)) = (r : Int) := ⟨((A : Int) % (8 * (p.length : Int))).toNat, by have := Int.emod_nonneg (A : Int) (b := 8 * (p.length : Int)) (by omega); omega⟩
      have hrl : r < 8 * p.length := by have := Int.emod_lt_of_pos (A : Int) (b := 8 * (p.length : Int)) (by omega); omega
      have hnil := World.ownsRow_nil w2 0 5 1
      have hsrc := OwnB.src (P := Try.prog) SP.out rfl (t := 25) Try.underlying25
      go_wp2_with (at_builtin; refine wpList_app 25 25 5 (.int .u8 0) 1 1 Try.underlying25 infoU8 rfl (by decide) (by decide) rfl rfl rfl rfl hnil hsrc (by omega) ?_)
      intro ao3 cp3 w3 hown hgr hfr
      try simp only [Nat.zero_add, List.nil_append] at hown hfr
      have k23 : Keep NoF w2 w3 := (Keep.refl NoF w2).grown hgr (fun k _ e => by cases e)
      have O3 : Hid (OwnB w3 (.slice ao3 p.length cp3) p) := hown
      have K23 := Lib.hid k23
      have K3 := Lib.hid (K2.out.trans' k23)
      have SP3 := Lib.hid (SP.out.keep k23 (fun _ _ f => f))
      have f3 : Hid (∀ k, (Value.slice ao3 p.length cp3).ownBlock = some k → w2.heap.size ≤ k) := fun k e => by
        rcases hfr with h | h <;> rw [h] at e
        · cases e
        · injection e with e; omega
      have BP := Lib.hid bp
      clear hnil hsrc hown hgr hfr k23 bp
      go_wp2_with fail
      have O3' : Hid (∃ c : List UInt8, c.length = p.length ∧ OwnB w3 (.slice ao3 p.length cp3) c ∧ ∀ j, bitAt c j = bitAt p j ^^^ (if r ≤ j ∧ j < r + 0 then bits_ / 2 ^ (j - r) % 2 else 0)) :=
        ⟨p, rfl, O3.out, fun j => by rw [if_neg (by omega), Nat.xor_zero]⟩
      clear O3
      simp only [hr]
      go_loopw [9, 10] (fun tv i wr => ∃ k : Nat, k ≤ 32 ∧ r + k ≤ 8 * p.length ∧ i = .int .i64 k ∧ tv = .bool (decide (bits_ % 2 ^ k ≠ 0)) ∧ (∃ c : List UInt8, c.length = p.length ∧ OwnB wr (.slice ao3 p.length cp3) c ∧ ∀ j, bitAt c j = bitAt p j ^^^ (if r ≤ j ∧ j < r + k then bits_ / 2 ^ (j - r) % 2 else 0)) ∧ Keep NoF w2 wr) (fun _ i _ => 32 - (intOf i).toNat)
      case atStart => exact ⟨0, by omega, by omega, rfl, by rw [Nat.pow_zero, Nat.mod_one]; rfl, O3'.out, K23.out⟩
      case round =>
        obtain ⟨k, hk32, hkl, rfl, rfl, hO, hK⟩ := hrel
        clear O3' K3 SP3 K23
        by_cases hlt : k < 32 ∧ r + k < 8 * p.length
        · obtain ⟨hk1, hk2⟩ := hlt
          have hk3 : (r : Int) + k < 8 * p.length := by omega
          have hd : (bits .and .u32 ((bits_ : Int) / 2 ^ k) 1 == 1) = decide (bits_ / 2 ^ k % 2 = 1) := by
            have e1 : ((bits_ : Int) / 2 ^ k) = ((bits_ / 2 ^ k : Nat) : Int) := by push_cast; rfl
            rw [e1, and1_u32 _ (Nat.lt_of_le_of_lt (Nat.div_le_self _ _) hb32), Bool.eq_iff_iff]
            simp
            omega
          by_cases hbit : bits_ / 2 ^ k % 2 = 1
          · rw [decide_eq_true hbit] at hd
            obtain ⟨c, hcl, hOc, hcb⟩ := hO
            have hOr : wr.ownsRow 0 5 1 (.slice ao3 p.length cp3) p.length (bvs c) := by rw [← hcl]; rw [← hcl] at hOc; exact hOc
            obtain ⟨g, cap, hv, _, hglt⟩ := World.ownsRow.form hOr hp1
            injection hv with hv1 hv2 hv3
            subst hv1 hv3
            have hq : (r + k) / 8 < c.length := by omega
            have hcell : wr.cell? ⟨g, (r + k) / 8, none⟩ = some (.int .u8 ((c.getD ((r + k) / 8) 0).toNat : Int)) := by
              rw [hOr.cellAt _ (by omega), bvs, List.getElem?_map, List.getElem?_eq_getElem hq, List.getD_eq_getElem?_getD, List.getElem?_eq_getElem hq]; rfl
            have hfr := hOr.frozenAt ((r + k) / 8)
            have hx8 := (c.getD ((r + k) / 8) 0).toNat_lt
            have hp8 : 2 ^ ((r + k) % 8) < 256 := by
              have : 2 ^ ((r + k) % 8) ≤ 2 ^ 7 := Nat.pow_le_pow_right (by omega) (by omega)
              have : (2 : Nat) ^ 7 = 128 := rfl
              omega
            have hxl : (c.getD ((r + k) / 8) 0).toNat ^^^ 2 ^ ((r + k) % 8) < 256 := Nat.xor_lt_two_pow (n := 8) hx8 hp8
            have hxor := u8_xor_nat (c.getD ((r + k) / 8) 0).toNat (2 ^ ((r + k) % 8)) hx8 hp8
            obtain ⟨y, hy⟩ : ∃ y : UInt8, y.toNat = (c.getD ((r + k) / 8) 0).toNat ^^^ 2 ^ ((r + k) % 8) := ⟨UInt8.ofNat ((c.getD ((r + k) / 8) 0).toNat ^^^ 2 ^ ((r + k) % 8)), by rw [UInt8.toNat_ofNat']; omega⟩
            rw [← hy] at hxor
            have hst := hOr.stored ((r + k) / 8) (bval y)
            have Hst := Lib.hid hst; have Hy := Lib.hid hy; have Hcb := Lib.hid hcb
            have HK := Lib.hid hK
            have HG : Hid (w2.heap.size ≤ g) := f3.out g rfl
            clear hst hy hcb hOc hOr hxl hK hv2
            go_wp2_with fail
            go_roundw
            case rel =>
              have e1 : ((2 : Int) ^ ((r + k) % 8)) % 256 = ((2 ^ ((r + k) % 8) : Nat) : Int) := by
                have := Int.emod_eq_of_lt (a := ((2 ^ ((r + k) % 8) : Nat) : Int)) (b := 256) (Int.natCast_nonneg _) (Int.ofNat_lt.mpr hp8)
                rw [← this]; push_cast; rfl
              have e2 : bits .xor .u8 (((c[(r + k) / 8]?.getD 0).toNat : Nat) : Int) ((2 : Int) ^ ((r + k) % 8) % 256) = (y.toNat : Int) := by
                rw [e1, ← List.getD_eq_getElem?_getD]; exact hxor
              rw [e2]
              have e3 : bits_ / 2 ^ k % 2 = 1 := hbit
              refine ⟨k + 1, by omega, by omega, by go_num, ?_, ⟨c.set ((r + k) / 8) y, by rw [List.length_set]; exact hcl, ?_, ?_⟩, HK.out.setCell (p := ⟨g, (r + k) / 8, none⟩) (fun h => by have := HG.out; simp only at h; omega) _⟩
              · rw [Nat.mod_pow_succ, e3]
                have : 0 < 2 ^ k := Nat.pow_pos (by decide)
                congr 1; simp
              · have := Hst.out.1
                rw [OwnB, List.length_set, hcl, bvs, List.map_set]
                exact this
              · intro j
                rw [bitAt_set c (r + k) (by omega) y Hy.out j, Hcb.out j, Nat.xor_assoc]
                congr 1
                by_cases hj : j = r + k
                · subst hj
                  rw [if_neg (by omega), if_pos rfl, if_pos (by omega), show r + k - r = k by omega, e3]; rfl
                · rw [if_neg hj, Nat.xor_zero]
                  by_cases hj2 : r ≤ j ∧ j < r + k
                  · rw [if_pos hj2, if_pos (by omega)]
                  · rw [if_neg hj2, if_neg (by omega)]
            case measure => simp [intOf]; omega
          · rw [decide_eq_false hbit] at hd
            have hb0 : bits_ / 2 ^ k % 2 = 0 := by omega
            have HO := Lib.hid hO; have HK := Lib.hid hK
            have Hb0 := Lib.hid hb0
            clear hO hK hb0 hbit
            go_wp2_with fail
            go_roundw
            case rel =>
              obtain ⟨c, hcl, hOc, hcb⟩ := HO.out
              refine ⟨k + 1, by omega, by omega, by go_num, ?_, ⟨c, hcl, hOc, ?_⟩, HK.out⟩
              · rw [Nat.mod_pow_succ, Hb0.out]; simp
              · intro j
                rw [hcb j]
                congr 1
                by_cases hj : j = r + k
                · subst hj
                  rw [if_neg (by omega), if_pos (by omega), show r + k - r = k by omega, Hb0.out]
                · by_cases hj2 : r ≤ j ∧ j < r + k
                  · rw [if_pos hj2, if_pos (by omega)]
                  · rw [if_neg hj2, if_neg (by omega)]
            case measure => simp [intOf]; omega
        · have hend : decide (k < 32 ∧ r + k < 8 * p.length) = false := decide_eq_false hlt
          obtain ⟨c, hcl, hOc, hcb⟩ := hO
          obtain ⟨ao4, cp4, hv4, sc, _⟩ := hOc.slb
          have hlaw := turn_law p c hcl r k bits_ hk32 (by omega) hcb
          have hv5 : ao3 = ao4 ∧ cp3 = cp4 := by injection hv4 with h1 h2 h3; exact ⟨h1, h3⟩
          obtain ⟨rfl, rfl⟩ := hv5
          have HL := Lib.hid hlaw; have HC := Lib.hid hcl; have SC := Lib.hid sc
          have SPr := Lib.hid (SP.out.keep hK (fun _ _ f => f))
          have HK := Lib.hid (K2.out.trans' hK)
          clear hlaw hcl hOc hcb hv4 sc hK hend
          obtain ⟨tn, htn⟩ : ∃ tn : Bool, decide (bits_ % 2 ^ k ≠ 0) = tn := ⟨_, rfl⟩
          rw [htn]
          have HT : Hid ((!(((crcOf p : Nat) : Int) == ((crcOf c : Nat) : Int))) = tn) := by
            show _ = _
            rw [← htn, Bool.eq_iff_iff]
            have := HL.out
            simp
            exact not_congr (by rw [← this]; constructor <;> intro h <;> omega)
          clear htn HL
          by_cases hk : k < 32
          · have hk3 : ¬ (r : Int) + k < 8 * p.length := by omega
            go_wp2_with fail
            refine (of_at ao1 _ cp1 p wr SPr.out rfl).mono ?_
            rintro e w' ⟨rfl, rfl⟩
            go_wp2_with fail
            refine (of_at ao3 _ cp3 c wr SC.out HC.out).mono ?_
            rintro e w' ⟨rfl, rfl⟩
            go_wp2_with fail
            go_ret
            refine ⟨?_, HK.out⟩
            show Ending.returned (.bool ((((crcOf p : Nat) : Int) != ((crcOf c : Nat) : Int)) == tn)) = _
            rw [bne, HT.out]; simp
          · obtain rfl : k = 32 := by omega
            go_wp2_with fail
            refine (of_at ao1 _ cp1 p wr SPr.out rfl).mono ?_
            rintro e w' ⟨rfl, rfl⟩
            go_wp2_with fail
            refine (of_at ao3 _ cp3 c wr SC.out HC.out).mono ?_
            rintro e w' ⟨rfl, rfl⟩
            go_wp2_with fail
            go_ret
            refine ⟨?_, HK.out⟩
            show Ending.returned (.bool ((((crcOf p : Nat) : Int) != ((crcOf c : Nat) : Int)) == tn)) = _
            rw [bne, HT.out]; simp

set_option linter.unusedVariables false
set_option maxRecDepth 100000 in
theorem lifted (os : Os) (started : os.Started) (H : Type) (enc : TypeId × Value → H) :
    ReturnsInHanded {} Try.checked os 8 .any (Rows.sumTurnSpec.pre6 enc Try.prog Try.f8 Rows.sumTurnRow.domain false) (Rows.sumTurnSpec.post enc Try.prog Try.f8 false true false false) := by
  refine returnsInHanded_of_change (C := Try.checked) own started (by kernel_rfl) Try.func8
    (ChangeSpec.witness6 (enc := enc) (C := Try.checked) false ⟨#[], #[.slice none 0 0, .int .i64 0, .int .u32 0], []⟩ 8 (by kernel_rfl) (by kernel_rfl) (by kernel_rfl) (by kernel_rfl)) ?_
  intro W base args ds gs before hval0 hW hcnd _
  have hval : ∀ (j : Nat) t v, Try.f8.params[j]? = some t → args[j]? = some v → Value.okWide Try.prog W .any base t v := hval0
  have hW' := hW
  obtain ⟨p, q, hA0, hV, rfl, hfz, hnd⟩ := hW
  have hA : DataW.TrodAll enc Try.prog W 0 (fun _ => true) true Try.f8.params.toList args.toList ds p := hA0
  rw [Try.params8] at hA hval
  obtain ⟨v0, vs0, d0, ds0, p0, q0, hargs, rfl, rfl, h0, r0⟩ := trodAll_cons hA
  obtain ⟨v1, vs1, d1, ds1, p1, q1, rfl, rfl, rfl, h1, r1⟩ := trodAll_cons r0
  obtain ⟨v2, vs2, d2, ds2, p2, q2, rfl, rfl, rfl, h2, r2⟩ := trodAll_cons r1
  obtain ⟨rfl, rfl, rfl⟩ := trodAll_nil r2
  obtain rfl : args = #[v0, v1, v2] := by cases args; simp_all
  obtain ⟨rfl, rfl⟩ := trodVars_none hV
  obtain ⟨a0, len0, cap0, rfl⟩ := okWide_slice Try.underlying25 (hval 0 25 v0 rfl rfl)
  have k0 := h0
  have lt0 : ∀ x ∈ p0, x.block < W.heap.size := by obtain ⟨m, hm⟩ := k0; exact DataW.trod_lt m _ _ _ hm
  obtain ⟨z0, w0⟩ : ∃ zs, IsRow .u8 W a0 len0 cap0 zs := by
    obtain ⟨fuel, hf⟩ := h0
    rcases open_ints Try.underlying25 Try.underlying5 (by kernel_rfl) hf with ⟨hcs, _⟩ | ⟨x, l, c, zs, hcs, _, hl, hm, hz, _, hcell, hwz⟩
    · simp [Value.cells] at hcs
      obtain ⟨rfl, rfl, rfl⟩ := hcs
      exact ⟨[], .inl ⟨rfl, rfl, rfl, rfl⟩⟩
    · simp [Value.cells] at hcs
      obtain ⟨rfl, rfl, rfl⟩ := hcs
      exact ⟨zs, .inr ⟨_, rfl, hl, hm, by simpa using hz, hcell, hwz⟩⟩
  obtain ⟨a1, rfl, rfl, rfl, w1⟩ := open_int Try.underlying3 (hval 1 3 v1 rfl rfl) h1
  obtain ⟨a2, rfl, rfl, rfl, w2⟩ := open_int Try.underlying53 (hval 2 53 v2 rfl rfl) h2
  clear hA0 hval0
  refine (walk W a0 len0 cap0 z0 w0 a1 w1 a2 w2).mono fun e W' ⟨he, hk⟩ => ?_
  subst he
  have bel := Keep.below hk
  exact ⟨_, rfl, _, _, _, [], _, [], hW', trodAll_mk1 (shut_bool Try.underlying4 _), (trodAll_cons_mk (Below.trod laidOut (by kernel_rfl) (of_decide_eq_true (by kernel_rfl)) k0 bel lt0) (trodAll_cons_mk (shut_int Try.underlying3 w1) (trodAll_cons_mk (shut_int Try.underlying53 w2) trodAll_mk0))), rfl, bel.frame _, fun h => by cases h⟩

theorem over : Rows.sumTurnRow.holds Try.pinned (OpenSpec.ofChange Rows.sumTurnSpec) :=
  OpenClaim.holds_of_wide 8 Try.f8 rfl rfl rfl rfl rfl rfl rfl ⟨rfl, rfl, rfl, rfl, rfl⟩ rfl rfl rfl rfl rfl (by kernel_rfl) Try.func8 (by kernel_rfl)
    (of_decide_eq_true (by kernel_rfl)) (by unfold Func.isWrapper; rw [if_neg (of_decide_eq_false (by kernel_rfl))]; exact ⟨rfl, rfl⟩)
    (fun os started H enc _ => lifted os started H enc)

/-- The statement. -/
theorem proved : Rows.SumTurnSaid := over
#print axioms proved
end Go.Proofs.Ytdipknkajmoldaa.sumTurn
