/- Puts, rising rows, what of a record may be. -/
import Derived.Test.YtdbgplnjppaimaaGreatRecAt
open Go Go.RowKit
namespace Go.Proofs.YtdbgplnjppaimaaGreat

def putVal (p : PutV) : Value := .agg #[.string p.q, .string p.b]
theorem keep_alloc (w : World) (o : Obj) : Keep NoF w (w.alloc o) := (Keep.refl NoF w).alloc o

set_option maxHeartbeats 400000 in
theorem kput_any (p : PutV) (w : World) (hq : p.q.size ≤ maxLen) :
    Calls Tryz.prog 94 #[putVal p] w fun e w' => e = .returned (.bool (putB p)) ∧ Keep NoF w w' := by
  obtain ⟨s, b⟩ := p
  unfold putVal putB
  simp only at hq ⊢
  by_cases hb : queueB s = true
  · rw [hb, Bool.true_and]
    go_enter Tryz.func94, Tryz.ntmps94
    go_wp2_with fail
    refine (kqueue_any s _ hq).mono ?_
    rintro e w1 ⟨rfl, rfl⟩
    rw [hb]
    go_wp2_with fail
    refine (kbody_any b _).mono ?_
    rintro e w1 ⟨rfl, rfl⟩
    go_wp2_with fail
    go_ret
    exact ⟨rfl, keep_alloc _ _⟩
  · have hb2 : queueB s = false := by simpa using hb
    rw [hb2, Bool.false_and]
    clear hb
    go_enter Tryz.func94, Tryz.ntmps94
    go_wp2_with fail
    refine (kqueue_any s _ hq).mono ?_
    rintro e w1 ⟨rfl, rfl⟩
    rw [hb2]
    go_wp2_with fail
    go_ret
    exact ⟨rfl, keep_alloc _ _⟩

set_option maxHeartbeats 400000 in
theorem badput_any (p : PutV) (w : World) (hq : p.q.size ≤ maxLen) :
    Calls Tryz.prog 93 #[putVal p] w fun e w' => e = .returned (.bool (!putB p)) ∧ Keep NoF w w' := by
  have hc := fun W => kput_any p W hq
  obtain ⟨s, b⟩ := p
  unfold putVal at hc ⊢
  simp only at hc ⊢
  go_enter Tryz.func93, Tryz.ntmps93
  go_wp2_with fail
  refine (hc _).mono ?_
  rintro e w1 ⟨rfl, hk⟩
  have HK := Lib.hid hk; clear hk hc
  go_wp2_with fail
  go_ret
  exact ⟨rfl, (keep_alloc _ _).trans' HK.out⟩

theorem getD_of_lt {α : Type} (l : List α) (d : α) (i : Nat) (h : i < l.length) : l.getD i d = l[i] := by
  rw [List.getD_eq_getElem?_getD, List.getElem?_eq_getElem h, Option.getD_some]

def badFn : Value := .func (.func 93) #[] #[]

set_option maxHeartbeats 400000 in
theorem indexbad_any (ao : Option Addr) (cp : Nat) (l : List PutV) (w : World) (h : SlP w ao cp l) :
    Calls Tryz.prog 111 #[.slice ao l.length cp, badFn] w fun e w' =>
      (∃ n : Int, e = .returned (.int .i64 n) ∧ (-1 ≤ n ∧ n < 9223372036854775807) ∧ (decide (0 ≤ n) = !putsB l)) ∧ Keep NoF w w' := by
  have hlen := h.1
  have hcap := h.2.1
  unfold maxLen at hcap
  have H := Lib.hid h
  clear h
  unfold badFn
  go_enter Tryz.func111, Tryz.ntmps111
  go_wp2_with fail
  go_loopw [8] (fun iv wr => ∃ k : Nat, k ≤ l.length ∧ iv = .int .i64 k ∧ allN k (fun i => putB (l.getD i default)) = true ∧ Keep NoF w wr) (fun iv _ => l.length - (intOf iv).toNat)
  case atStart => exact ⟨0, Nat.zero_le _, rfl, rfl, Keep.refl _ _⟩
  case round =>
    obtain ⟨k, hk, rfl, hok, hK⟩ := hrel
    have HA := Lib.hid hok; have HK := Lib.hid hK
    clear hok hK
    by_cases hlt : k < l.length
    · obtain ⟨g, off, rfl, c0, c1⟩ := (H.out.keep HK.out (fun _ _ f => f)).2.2.2 k hlt
      have hsz := H.out.2.2.1 _ (List.getElem_mem hlt)
      have hd : l.getD k default = l[k] := getD_of_lt l default k hlt
      obtain ⟨p, hp⟩ : ∃ p, l[k] = p := ⟨_, rfl⟩
      rw [hp] at c0 c1 hsz hd
      have hc := fun W => badput_any p W hsz.1
      have HD := Lib.hid hd; have HC := Lib.hid hc
      clear hd hp hc
      obtain ⟨q, b⟩ := p
      simp only at c0 c1
      by_cases hb : putB ⟨q, b⟩ = true
      · go_wp2_with fail
        refine (HC.out _).mono ?_
        rintro e w2 ⟨rfl, hk2⟩
        rw [hb]
        have HK2 := Lib.hid hk2; have HB := Lib.hid hb
        clear hk2 hb c0 c1
        go_wp2_with fail
        go_roundw
        case rel =>
          refine ⟨k + 1, by omega, by go_num, ?_, HK.out.trans' HK2.out⟩
          rw [allN_succ, HA.out, HD.out, HB.out]; rfl
        case measure => simp [intOf]; omega
      · have hb2 : putB ⟨q, b⟩ = false := by simpa using hb
        clear hb
        go_wp2_with fail
        refine (HC.out _).mono ?_
        rintro e w2 ⟨rfl, hk2⟩
        rw [hb2]
        have HK2 := Lib.hid hk2; have HB := Lib.hid hb2
        clear hk2 hb2 c0 c1
        go_wp2_with fail
        go_ret
        refine ⟨⟨_, rfl, ⟨by omega, by omega⟩, ?_⟩, HK.out.trans' HK2.out⟩
        have e : putsB l = false := allN_false hlt (by rw [HD.out]; exact HB.out)
        rw [e]
        simp
    · obtain rfl : k = l.length := by omega
      go_wp2_with fail
      go_ret
      refine ⟨⟨_, rfl, ⟨by omega, by omega⟩, ?_⟩, HK.out⟩
      have e : putsB l = true := HA.out
      rw [e]
      rfl

set_option maxHeartbeats 400000 in
theorem containsbad_any (ao : Option Addr) (cp : Nat) (l : List PutV) (w : World) (h : SlP w ao cp l) :
    Calls Tryz.prog 92 #[.slice ao l.length cp, badFn] w fun e w' => e = .returned (.bool (!putsB l)) ∧ Keep NoF w w' := by
  have hi := indexbad_any ao cp l w h
  unfold badFn at hi ⊢
  clear h
  have HI := Lib.hid hi; clear hi
  go_enter Tryz.func92, Tryz.ntmps92
  go_wp2_with fail
  refine HI.out.mono ?_
  rintro e w2 ⟨⟨n, rfl, hn, hd⟩, hk⟩
  have HK := Lib.hid hk; have HD := Lib.hid hd
  clear hd hk
  go_wp2_with fail
  go_ret
  exact ⟨by rw [← HD.out]; rfl, HK.out⟩

set_option maxHeartbeats 800000 in
theorem krising_any (ao : Option Addr) (cp : Nat) (l : List Int) (least most : Nat) (w : World) (h : SlI w ao cp l) (_hm : least ≤ 10 ∧ most ≤ 10) :
    Calls Tryz.prog 95 #[.slice ao l.length cp, .int .i64 least, .int .i64 most] w fun e w' => e = .returned (.bool (risingB l least most)) ∧ w' = w := by
  have hlen := h.1
  have hcap := h.2.1
  unfold maxLen at hcap
  have H := Lib.hid h
  have hall : allN l.length (riseAt l) = true → risingB l least most = (decide (least ≤ l.length) && decide (l.length ≤ most)) := fun h => by rw [risingB, h, Bool.true_and]
  have hbad : allN l.length (riseAt l) = false → risingB l least most = false := fun h => by rw [risingB, h, Bool.false_and]
  have HA := Lib.hid hall; have HB := Lib.hid hbad
  clear h hall hbad
  go_enter Tryz.func95, Tryz.ntmps95
  go_wp2_with fail
  go_loopw [11] (fun iv wr => ∃ k : Nat, k ≤ l.length ∧ iv = .int .i64 k ∧ allN k (riseAt l) = true ∧ wr = w) (fun iv _ => l.length - (intOf iv).toNat)
  case atStart => exact ⟨0, Nat.zero_le _, rfl, rfl, rfl⟩
  case round =>
    obtain ⟨k, hk, rfl, hok, rfl⟩ := hrel
    have HK := Lib.hid hok; clear hok
    by_cases hlt : k < l.length
    · obtain ⟨g, off, rfl, c0⟩ := H.out.2.2.2 k hlt
      have hb := H.out.2.2.1 _ (List.getElem_mem hlt)
      have hd : l.getD k 0 = l[k] := getD_of_lt l 0 k hlt
      obtain ⟨x, hx⟩ : ∃ x, l[k] = x := ⟨_, rfl⟩
      rw [hx] at c0 hb hd
      unfold InI64 at hb
      have HD := Lib.hid hd
      clear hd hx
      by_cases hbr : brokerB x = true
      · by_cases h0 : k = 0
        · subst h0
          simp only [Nat.add_zero] at c0
          go_wp2_with fail
          refine (kbroker_any x _).mono ?_
          rintro e w2 ⟨rfl, rfl⟩
          rw [hbr]
          have HBR := Lib.hid hbr; clear hbr
          go_wp2_with fail
          go_roundw
          case rel =>
            refine ⟨1, by omega, by go_num, ?_, trivial⟩
            rw [allN_succ, HK.out, riseAt, HD.out, HBR.out]; rfl
          case measure => simp [intOf]; omega
        · obtain ⟨j, rfl⟩ : ∃ j, k = j + 1 := ⟨k - 1, by omega⟩
          obtain ⟨g2, off2, e2, c1⟩ := H.out.2.2.2 j (by omega)
          injection e2 with e2; injection e2 with e2 e3; subst e2 e3
          have hb1 := H.out.2.2.1 _ (List.getElem_mem (show j < l.length by omega))
          have hd1 : l.getD j 0 = l[j] := getD_of_lt l 0 j (by omega)
          obtain ⟨y, hy⟩ : ∃ y, l[j]'(by omega) = y := ⟨_, rfl⟩
          rw [hy] at c1 hb1 hd1
          unfold InI64 at hb1
          have HD1 := Lib.hid hd1
          clear hd1 hy h0
          have hj : ((j + 1 : Nat) : Int) - 1 = (j : Int) := by omega
          have hj0 : (0 : Int) < ((j + 1 : Nat) : Int) := by omega
          by_cases hxy : y < x
          · go_wp2_with fail
            refine (kbroker_any x _).mono ?_
            rintro e w2 ⟨rfl, rfl⟩
            rw [hbr]
            have HBR := Lib.hid hbr; clear hbr
            go_wp2_with fail
            go_roundw
            case rel =>
              refine ⟨j + 1 + 1, by omega, by go_num, ?_, trivial⟩
              rw [allN_succ, HK.out, riseAt, HD.out, HBR.out, show j + 1 - 1 = j from rfl, HD1.out, decide_eq_true hxy]; simp
            case measure => simp [intOf]; omega
          · have hxy2 : x ≤ y := by omega
            have hr : risingB l least most = false := HB.out (allN_false hlt (by rw [riseAt, HD.out, show j + 1 - 1 = j from rfl, HD1.out, decide_eq_false hxy]; simp))
            have HR := Lib.hid hr
            clear hxy hr
            go_wp2_with fail
            refine (kbroker_any x _).mono ?_
            rintro e w2 ⟨rfl, rfl⟩
            rw [hbr]
            go_wp2_with fail
            go_ret
            exact ⟨by rw [HR.out]; rfl, rfl⟩
      · have hbr2 : brokerB x = false := by simpa using hbr
        have hr : risingB l least most = false := HB.out (allN_false hlt (by rw [riseAt, HD.out, hbr2]; rfl))
        have HR := Lib.hid hr
        clear hbr hr
        go_wp2_with fail
        refine (kbroker_any x _).mono ?_
        rintro e w2 ⟨rfl, rfl⟩
        rw [hbr2]
        go_wp2_with fail
        go_ret
        exact ⟨by rw [HR.out]; rfl, rfl⟩
    · obtain rfl : k = l.length := by omega
      obtain ⟨r, hr⟩ : ∃ r, risingB l least most = r := ⟨_, rfl⟩
      have hr2 := hr
      rw [HA.out HK.out] at hr2
      have HR := Lib.hid hr; have HR2 := Lib.hid hr2
      clear hr hr2
      by_cases h1 : (least : Int) ≤ l.length
      · go_wp2_with fail
        go_ret
        refine ⟨?_, rfl⟩
        rw [HR.out, ← HR2.out, decide_eq_true (show least ≤ l.length by omega), Bool.true_and]
        have e : (decide ((l.length : Int) ≤ most)) = decide (l.length ≤ most) := by rw [decide_eq_decide]; omega
        rw [← e]
        rfl
      · have h2 : (l.length : Int) < least := by omega
        go_wp2_with fail
        go_ret
        refine ⟨?_, rfl⟩
        rw [HR.out, ← HR2.out, decide_eq_false (show ¬ least ≤ l.length by omega), Bool.false_and]
        rfl

end Go.Proofs.YtdbgplnjppaimaaGreat
