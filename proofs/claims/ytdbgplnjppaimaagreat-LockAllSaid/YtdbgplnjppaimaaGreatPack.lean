/- Which packets may be. -/
import Derived.Test.YtdbgplnjppaimaaGreatKind
open Go Go.RowKit
namespace Go.Proofs.YtdbgplnjppaimaaGreat

structure PackV where
  kind : Int
  from_ : Int
  to : Int
  tid : Int
  n : Int
  yes : Bool
def packVal (p : PackV) : Value := .agg #[.int .i64 p.kind, .int .i64 p.from_, .int .i64 p.to, .int .i64 p.tid, .int .i64 p.n, .bool p.yes]
def In64 (n : Int) : Prop := -9223372036854775808 ≤ n ∧ n ≤ 9223372036854775807
def PackV.Ok (p : PackV) : Prop := In64 p.kind ∧ In64 p.from_ ∧ In64 p.to ∧ In64 p.tid ∧ In64 p.n
def packB (p : PackV) : Bool :=
  (decide (1 ≤ p.kind) && decide (p.kind ≤ 5)) && brokerB p.from_ && brokerB p.to && tidB p.tid && (if p.kind = 1 then decide (1 ≤ p.n) && decide (p.n ≤ 10) else decide (p.n = 0)) && (!p.yes || decide (p.kind = 2) || decide (p.kind = 3))
theorem pk_alloc (w : World) (o : Obj) : Keep NoF w (w.alloc o) := (Keep.refl NoF w).alloc o

set_option maxHeartbeats 4000000 in
theorem kpacket_any (p : PackV) (w : World) (hp : p.Ok) :
    Calls Tryz.prog 70 #[packVal p] w fun e w' => e = .returned (.bool (packB p)) ∧ Keep NoF w w' := by
  obtain ⟨k, f, t, d, n, y⟩ := p
  obtain ⟨bk, bf, bt, bd, bn⟩ := hp
  unfold In64 at bk bf bt bd bn
  unfold packVal
  simp only at bk bf bt bd bn ⊢
  have hkk : k < 1 ∨ 5 < k ∨ k = 1 ∨ k = 2 ∨ k = 3 ∨ k = 4 ∨ k = 5 := by omega
  obtain ⟨vf, hvf⟩ : ∃ v, brokerB f = v := ⟨_, rfl⟩
  obtain ⟨vt, hvt⟩ : ∃ v, brokerB t = v := ⟨_, rfl⟩
  obtain ⟨vd, hvd⟩ : ∃ v, tidB d = v := ⟨_, rfl⟩
  have hF := fun W => kbroker_any f W
  have hT := fun W => kbroker_any t W
  have hD := fun W => ktid_any d W bd
  rw [hvf] at hF
  rw [hvt] at hT
  rw [hvd] at hD
  have HF := Lib.hid hF; have HT := Lib.hid hT; have HD := Lib.hid hD
  clear hF hT hD
  rcases hkk with hk | hk | rfl | rfl | rfl | rfl | rfl
  · have hk2 : ¬ k = 1 := by omega
    have hk1 : (k == 1) = false := by simp; omega
    have HRES : Hid (packB ⟨k, f, t, d, n, y⟩ = false) := by
      have e : (decide (1 ≤ k) && decide (k ≤ 5)) = false := by
        rw [Bool.eq_false_iff]; intro h; simp only [Bool.and_eq_true, decide_eq_true_eq] at h; omega
      unfold packB; simp only [e]; exact Lib.hid (by simp)
    clear hvf hvt hvd
    have hn0 : n = 0 ∨ (n == 0) = false := by by_cases h : n = 0; exact .inl h; exact .inr (by simp; exact h)
    cases y
    all_goals
      go_enter Tryz.func70, Tryz.ntmps70
      go_wp2_with fail
      all_goals
        go_ret
        exact ⟨by rw [HRES.out]; rfl, pk_alloc _ _⟩
  · have hk3 : 1 ≤ k := by omega
    have hk2 : ¬ k = 1 := by omega
    have hk1 : (k == 1) = false := by simp; omega
    have HRES : Hid (packB ⟨k, f, t, d, n, y⟩ = false) := by
      have e : (decide (1 ≤ k) && decide (k ≤ 5)) = false := by
        rw [Bool.eq_false_iff]; intro h; simp only [Bool.and_eq_true, decide_eq_true_eq] at h; omega
      unfold packB; simp only [e]; exact Lib.hid (by simp)
    clear hvf hvt hvd
    have hn0 : n = 0 ∨ (n == 0) = false := by by_cases h : n = 0; exact .inl h; exact .inr (by simp; exact h)
    cases y
    all_goals
      go_enter Tryz.func70, Tryz.ntmps70
      go_wp2_with fail
      all_goals
        go_ret
        exact ⟨by rw [HRES.out]; rfl, pk_alloc _ _⟩
  · have hn : n < 1 ∨ 10 < n ∨ (1 ≤ n ∧ n ≤ 10) := by omega
    rcases hn with hn | hn | ⟨hn1, hn2⟩
    · have HRES : Hid (packB ⟨1, f, t, d, n, y⟩ = (vf && vt && vd && false && (!y))) := by
        have e0 : packB ⟨1, f, t, d, n, y⟩ = (vf && vt && vd && (decide (1 ≤ n) && decide (n ≤ 10)) && (!y || false || false)) := by rw [← hvf, ← hvt, ← hvd]; rfl
        have e1 : decide (1 ≤ n) = false := by simp; omega
        have e : (decide (1 ≤ n) && decide (n ≤ 10)) = false := by rw [e1]; rfl
        rw [e0, e]; exact Lib.hid (by simp)
      clear hvf hvt hvd
      cases y
      · go_enter Tryz.func70, Tryz.ntmps70
        go_wp2_with fail
        refine (HF.out _).mono ?_
        rintro e w1 ⟨rfl, rfl⟩
        cases vf
        · go_wp2_with fail
          all_goals
            go_ret
            exact ⟨by rw [HRES.out]; first | rfl | (simp; omega), pk_alloc _ _⟩
        · go_wp2_with fail
          refine (HT.out _).mono ?_
          rintro e w1 ⟨rfl, rfl⟩
          cases vt
          · go_wp2_with fail
            all_goals
              go_ret
              exact ⟨by rw [HRES.out]; first | rfl | (simp; omega), pk_alloc _ _⟩
          · go_wp2_with fail
            refine (HD.out _).mono ?_
            rintro e w1 ⟨rfl, rfl⟩
            cases vd
            · go_wp2_with fail
              all_goals
                go_ret
                exact ⟨by rw [HRES.out]; first | rfl | (simp; omega), pk_alloc _ _⟩
            · go_wp2_with fail
              all_goals
                go_ret
                exact ⟨by rw [HRES.out]; first | rfl | (simp; omega), pk_alloc _ _⟩
      · go_enter Tryz.func70, Tryz.ntmps70
        go_wp2_with fail
        refine (HF.out _).mono ?_
        rintro e w1 ⟨rfl, rfl⟩
        cases vf
        · go_wp2_with fail
          all_goals
            go_ret
            exact ⟨by rw [HRES.out]; first | rfl | (simp; omega), pk_alloc _ _⟩
        · go_wp2_with fail
          refine (HT.out _).mono ?_
          rintro e w1 ⟨rfl, rfl⟩
          cases vt
          · go_wp2_with fail
            all_goals
              go_ret
              exact ⟨by rw [HRES.out]; first | rfl | (simp; omega), pk_alloc _ _⟩
          · go_wp2_with fail
            refine (HD.out _).mono ?_
            rintro e w1 ⟨rfl, rfl⟩
            cases vd
            · go_wp2_with fail
              all_goals
                go_ret
                exact ⟨by rw [HRES.out]; first | rfl | (simp; omega), pk_alloc _ _⟩
            · go_wp2_with fail
              all_goals
                go_ret
                exact ⟨by rw [HRES.out]; first | rfl | (simp; omega), pk_alloc _ _⟩
    · have hn1 : 1 ≤ n := by omega
      have HRES : Hid (packB ⟨1, f, t, d, n, y⟩ = (vf && vt && vd && false && (!y))) := by
        have e0 : packB ⟨1, f, t, d, n, y⟩ = (vf && vt && vd && (decide (1 ≤ n) && decide (n ≤ 10)) && (!y || false || false)) := by rw [← hvf, ← hvt, ← hvd]; rfl
        have e1 : decide (n ≤ 10) = false := by simp; omega
        have e : (decide (1 ≤ n) && decide (n ≤ 10)) = false := by rw [e1, Bool.and_false]
        rw [e0, e]; exact Lib.hid (by simp)
      clear hvf hvt hvd
      cases y
      · go_enter Tryz.func70, Tryz.ntmps70
        go_wp2_with fail
        refine (HF.out _).mono ?_
        rintro e w1 ⟨rfl, rfl⟩
        cases vf
        · go_wp2_with fail
          all_goals
            go_ret
            exact ⟨by rw [HRES.out]; first | rfl | (simp; omega), pk_alloc _ _⟩
        · go_wp2_with fail
          refine (HT.out _).mono ?_
          rintro e w1 ⟨rfl, rfl⟩
          cases vt
          · go_wp2_with fail
            all_goals
              go_ret
              exact ⟨by rw [HRES.out]; first | rfl | (simp; omega), pk_alloc _ _⟩
          · go_wp2_with fail
            refine (HD.out _).mono ?_
            rintro e w1 ⟨rfl, rfl⟩
            cases vd
            · go_wp2_with fail
              all_goals
                go_ret
                exact ⟨by rw [HRES.out]; first | rfl | (simp; omega), pk_alloc _ _⟩
            · go_wp2_with fail
              all_goals
                go_ret
                exact ⟨by rw [HRES.out]; first | rfl | (simp; omega), pk_alloc _ _⟩
      · go_enter Tryz.func70, Tryz.ntmps70
        go_wp2_with fail
        refine (HF.out _).mono ?_
        rintro e w1 ⟨rfl, rfl⟩
        cases vf
        · go_wp2_with fail
          all_goals
            go_ret
            exact ⟨by rw [HRES.out]; first | rfl | (simp; omega), pk_alloc _ _⟩
        · go_wp2_with fail
          refine (HT.out _).mono ?_
          rintro e w1 ⟨rfl, rfl⟩
          cases vt
          · go_wp2_with fail
            all_goals
              go_ret
              exact ⟨by rw [HRES.out]; first | rfl | (simp; omega), pk_alloc _ _⟩
          · go_wp2_with fail
            refine (HD.out _).mono ?_
            rintro e w1 ⟨rfl, rfl⟩
            cases vd
            · go_wp2_with fail
              all_goals
                go_ret
                exact ⟨by rw [HRES.out]; first | rfl | (simp; omega), pk_alloc _ _⟩
            · go_wp2_with fail
              all_goals
                go_ret
                exact ⟨by rw [HRES.out]; first | rfl | (simp; omega), pk_alloc _ _⟩
    · have HRES : Hid (packB ⟨1, f, t, d, n, y⟩ = (vf && vt && vd && true && (!y))) := by
        have e0 : packB ⟨1, f, t, d, n, y⟩ = (vf && vt && vd && (decide (1 ≤ n) && decide (n ≤ 10)) && (!y || false || false)) := by rw [← hvf, ← hvt, ← hvd]; rfl
        have e : (decide (1 ≤ n) && decide (n ≤ 10)) = true := by simp; omega
        rw [e0, e]; exact Lib.hid (by simp)
      clear hvf hvt hvd
      cases y
      · go_enter Tryz.func70, Tryz.ntmps70
        go_wp2_with fail
        refine (HF.out _).mono ?_
        rintro e w1 ⟨rfl, rfl⟩
        cases vf
        · go_wp2_with fail
          all_goals
            go_ret
            exact ⟨by rw [HRES.out]; first | rfl | (simp; omega), pk_alloc _ _⟩
        · go_wp2_with fail
          refine (HT.out _).mono ?_
          rintro e w1 ⟨rfl, rfl⟩
          cases vt
          · go_wp2_with fail
            all_goals
              go_ret
              exact ⟨by rw [HRES.out]; first | rfl | (simp; omega), pk_alloc _ _⟩
          · go_wp2_with fail
            refine (HD.out _).mono ?_
            rintro e w1 ⟨rfl, rfl⟩
            cases vd
            · go_wp2_with fail
              all_goals
                go_ret
                exact ⟨by rw [HRES.out]; first | rfl | (simp; omega), pk_alloc _ _⟩
            · go_wp2_with fail
              all_goals
                go_ret
                exact ⟨by rw [HRES.out]; first | rfl | (simp; omega), pk_alloc _ _⟩
      · go_enter Tryz.func70, Tryz.ntmps70
        go_wp2_with fail
        refine (HF.out _).mono ?_
        rintro e w1 ⟨rfl, rfl⟩
        cases vf
        · go_wp2_with fail
          all_goals
            go_ret
            exact ⟨by rw [HRES.out]; first | rfl | (simp; omega), pk_alloc _ _⟩
        · go_wp2_with fail
          refine (HT.out _).mono ?_
          rintro e w1 ⟨rfl, rfl⟩
          cases vt
          · go_wp2_with fail
            all_goals
              go_ret
              exact ⟨by rw [HRES.out]; first | rfl | (simp; omega), pk_alloc _ _⟩
          · go_wp2_with fail
            refine (HD.out _).mono ?_
            rintro e w1 ⟨rfl, rfl⟩
            cases vd
            · go_wp2_with fail
              all_goals
                go_ret
                exact ⟨by rw [HRES.out]; first | rfl | (simp; omega), pk_alloc _ _⟩
            · go_wp2_with fail
              all_goals
                go_ret
                exact ⟨by rw [HRES.out]; first | rfl | (simp; omega), pk_alloc _ _⟩
  · obtain ⟨vn, hvn⟩ : ∃ v, (n == 0) = v := ⟨_, rfl⟩
    have HRES : Hid (packB ⟨2, f, t, d, n, y⟩ = (vf && vt && vd && vn && (true))) := by
      have e0 : packB ⟨2, f, t, d, n, y⟩ = (vf && vt && vd && decide (n = 0) && (!y || true || false)) := by rw [← hvf, ← hvt, ← hvd]; rfl
      rw [e0, show decide (n = 0) = vn from hvn]; exact Lib.hid (by simp)
    clear hvf hvt hvd
    cases y
    · go_enter Tryz.func70, Tryz.ntmps70
      go_wp2_with fail
      refine (HF.out _).mono ?_
      rintro e w1 ⟨rfl, rfl⟩
      cases vf
      · go_wp2_with fail
        all_goals
          go_ret
          exact ⟨by rw [HRES.out]; first | rfl | (simp; omega), pk_alloc _ _⟩
      · go_wp2_with fail
        refine (HT.out _).mono ?_
        rintro e w1 ⟨rfl, rfl⟩
        cases vt
        · go_wp2_with fail
          all_goals
            go_ret
            exact ⟨by rw [HRES.out]; first | rfl | (simp; omega), pk_alloc _ _⟩
        · go_wp2_with fail
          refine (HD.out _).mono ?_
          rintro e w1 ⟨rfl, rfl⟩
          cases vd
          · go_wp2_with fail
            all_goals
              go_ret
              exact ⟨by rw [HRES.out]; first | rfl | (simp; omega), pk_alloc _ _⟩
          · cases vn
            · go_wp2_with fail
              all_goals
                go_ret
                exact ⟨by rw [HRES.out]; first | rfl | (simp; omega), pk_alloc _ _⟩
            · go_wp2_with fail
              all_goals
                go_ret
                exact ⟨by rw [HRES.out]; first | rfl | (simp; omega), pk_alloc _ _⟩
    · go_enter Tryz.func70, Tryz.ntmps70
      go_wp2_with fail
      refine (HF.out _).mono ?_
      rintro e w1 ⟨rfl, rfl⟩
      cases vf
      · go_wp2_with fail
        all_goals
          go_ret
          exact ⟨by rw [HRES.out]; first | rfl | (simp; omega), pk_alloc _ _⟩
      · go_wp2_with fail
        refine (HT.out _).mono ?_
        rintro e w1 ⟨rfl, rfl⟩
        cases vt
        · go_wp2_with fail
          all_goals
            go_ret
            exact ⟨by rw [HRES.out]; first | rfl | (simp; omega), pk_alloc _ _⟩
        · go_wp2_with fail
          refine (HD.out _).mono ?_
          rintro e w1 ⟨rfl, rfl⟩
          cases vd
          · go_wp2_with fail
            all_goals
              go_ret
              exact ⟨by rw [HRES.out]; first | rfl | (simp; omega), pk_alloc _ _⟩
          · cases vn
            · go_wp2_with fail
              all_goals
                go_ret
                exact ⟨by rw [HRES.out]; first | rfl | (simp; omega), pk_alloc _ _⟩
            · go_wp2_with fail
              all_goals
                go_ret
                exact ⟨by rw [HRES.out]; first | rfl | (simp; omega), pk_alloc _ _⟩
  · obtain ⟨vn, hvn⟩ : ∃ v, (n == 0) = v := ⟨_, rfl⟩
    have HRES : Hid (packB ⟨3, f, t, d, n, y⟩ = (vf && vt && vd && vn && (true))) := by
      have e0 : packB ⟨3, f, t, d, n, y⟩ = (vf && vt && vd && decide (n = 0) && (!y || false || true)) := by rw [← hvf, ← hvt, ← hvd]; rfl
      rw [e0, show decide (n = 0) = vn from hvn]; exact Lib.hid (by simp)
    clear hvf hvt hvd
    cases y
    · go_enter Tryz.func70, Tryz.ntmps70
      go_wp2_with fail
      refine (HF.out _).mono ?_
      rintro e w1 ⟨rfl, rfl⟩
      cases vf
      · go_wp2_with fail
        all_goals
          go_ret
          exact ⟨by rw [HRES.out]; first | rfl | (simp; omega), pk_alloc _ _⟩
      · go_wp2_with fail
        refine (HT.out _).mono ?_
        rintro e w1 ⟨rfl, rfl⟩
        cases vt
        · go_wp2_with fail
          all_goals
            go_ret
            exact ⟨by rw [HRES.out]; first | rfl | (simp; omega), pk_alloc _ _⟩
        · go_wp2_with fail
          refine (HD.out _).mono ?_
          rintro e w1 ⟨rfl, rfl⟩
          cases vd
          · go_wp2_with fail
            all_goals
              go_ret
              exact ⟨by rw [HRES.out]; first | rfl | (simp; omega), pk_alloc _ _⟩
          · cases vn
            · go_wp2_with fail
              all_goals
                go_ret
                exact ⟨by rw [HRES.out]; first | rfl | (simp; omega), pk_alloc _ _⟩
            · go_wp2_with fail
              all_goals
                go_ret
                exact ⟨by rw [HRES.out]; first | rfl | (simp; omega), pk_alloc _ _⟩
    · go_enter Tryz.func70, Tryz.ntmps70
      go_wp2_with fail
      refine (HF.out _).mono ?_
      rintro e w1 ⟨rfl, rfl⟩
      cases vf
      · go_wp2_with fail
        all_goals
          go_ret
          exact ⟨by rw [HRES.out]; first | rfl | (simp; omega), pk_alloc _ _⟩
      · go_wp2_with fail
        refine (HT.out _).mono ?_
        rintro e w1 ⟨rfl, rfl⟩
        cases vt
        · go_wp2_with fail
          all_goals
            go_ret
            exact ⟨by rw [HRES.out]; first | rfl | (simp; omega), pk_alloc _ _⟩
        · go_wp2_with fail
          refine (HD.out _).mono ?_
          rintro e w1 ⟨rfl, rfl⟩
          cases vd
          · go_wp2_with fail
            all_goals
              go_ret
              exact ⟨by rw [HRES.out]; first | rfl | (simp; omega), pk_alloc _ _⟩
          · cases vn
            · go_wp2_with fail
              all_goals
                go_ret
                exact ⟨by rw [HRES.out]; first | rfl | (simp; omega), pk_alloc _ _⟩
            · go_wp2_with fail
              all_goals
                go_ret
                exact ⟨by rw [HRES.out]; first | rfl | (simp; omega), pk_alloc _ _⟩
  · obtain ⟨vn, hvn⟩ : ∃ v, (n == 0) = v := ⟨_, rfl⟩
    have HRES : Hid (packB ⟨4, f, t, d, n, y⟩ = (vf && vt && vd && vn && (!y))) := by
      have e0 : packB ⟨4, f, t, d, n, y⟩ = (vf && vt && vd && decide (n = 0) && (!y || false || false)) := by rw [← hvf, ← hvt, ← hvd]; rfl
      rw [e0, show decide (n = 0) = vn from hvn]; exact Lib.hid (by simp)
    clear hvf hvt hvd
    cases y
    · go_enter Tryz.func70, Tryz.ntmps70
      go_wp2_with fail
      refine (HF.out _).mono ?_
      rintro e w1 ⟨rfl, rfl⟩
      cases vf
      · go_wp2_with fail
        all_goals
          go_ret
          exact ⟨by rw [HRES.out]; first | rfl | (simp; omega), pk_alloc _ _⟩
      · go_wp2_with fail
        refine (HT.out _).mono ?_
        rintro e w1 ⟨rfl, rfl⟩
        cases vt
        · go_wp2_with fail
          all_goals
            go_ret
            exact ⟨by rw [HRES.out]; first | rfl | (simp; omega), pk_alloc _ _⟩
        · go_wp2_with fail
          refine (HD.out _).mono ?_
          rintro e w1 ⟨rfl, rfl⟩
          cases vd
          · go_wp2_with fail
            all_goals
              go_ret
              exact ⟨by rw [HRES.out]; first | rfl | (simp; omega), pk_alloc _ _⟩
          · cases vn
            · go_wp2_with fail
              all_goals
                go_ret
                exact ⟨by rw [HRES.out]; first | rfl | (simp; omega), pk_alloc _ _⟩
            · go_wp2_with fail
              all_goals
                go_ret
                exact ⟨by rw [HRES.out]; first | rfl | (simp; omega), pk_alloc _ _⟩
    · go_enter Tryz.func70, Tryz.ntmps70
      go_wp2_with fail
      refine (HF.out _).mono ?_
      rintro e w1 ⟨rfl, rfl⟩
      cases vf
      · go_wp2_with fail
        all_goals
          go_ret
          exact ⟨by rw [HRES.out]; first | rfl | (simp; omega), pk_alloc _ _⟩
      · go_wp2_with fail
        refine (HT.out _).mono ?_
        rintro e w1 ⟨rfl, rfl⟩
        cases vt
        · go_wp2_with fail
          all_goals
            go_ret
            exact ⟨by rw [HRES.out]; first | rfl | (simp; omega), pk_alloc _ _⟩
        · go_wp2_with fail
          refine (HD.out _).mono ?_
          rintro e w1 ⟨rfl, rfl⟩
          cases vd
          · go_wp2_with fail
            all_goals
              go_ret
              exact ⟨by rw [HRES.out]; first | rfl | (simp; omega), pk_alloc _ _⟩
          · cases vn
            · go_wp2_with fail
              all_goals
                go_ret
                exact ⟨by rw [HRES.out]; first | rfl | (simp; omega), pk_alloc _ _⟩
            · go_wp2_with fail
              all_goals
                go_ret
                exact ⟨by rw [HRES.out]; first | rfl | (simp; omega), pk_alloc _ _⟩
  · obtain ⟨vn, hvn⟩ : ∃ v, (n == 0) = v := ⟨_, rfl⟩
    have HRES : Hid (packB ⟨5, f, t, d, n, y⟩ = (vf && vt && vd && vn && (!y))) := by
      have e0 : packB ⟨5, f, t, d, n, y⟩ = (vf && vt && vd && decide (n = 0) && (!y || false || false)) := by rw [← hvf, ← hvt, ← hvd]; rfl
      rw [e0, show decide (n = 0) = vn from hvn]; exact Lib.hid (by simp)
    clear hvf hvt hvd
    cases y
    · go_enter Tryz.func70, Tryz.ntmps70
      go_wp2_with fail
      refine (HF.out _).mono ?_
      rintro e w1 ⟨rfl, rfl⟩
      cases vf
      · go_wp2_with fail
        all_goals
          go_ret
          exact ⟨by rw [HRES.out]; first | rfl | (simp; omega), pk_alloc _ _⟩
      · go_wp2_with fail
        refine (HT.out _).mono ?_
        rintro e w1 ⟨rfl, rfl⟩
        cases vt
        · go_wp2_with fail
          all_goals
            go_ret
            exact ⟨by rw [HRES.out]; first | rfl | (simp; omega), pk_alloc _ _⟩
        · go_wp2_with fail
          refine (HD.out _).mono ?_
          rintro e w1 ⟨rfl, rfl⟩
          cases vd
          · go_wp2_with fail
            all_goals
              go_ret
              exact ⟨by rw [HRES.out]; first | rfl | (simp; omega), pk_alloc _ _⟩
          · cases vn
            · go_wp2_with fail
              all_goals
                go_ret
                exact ⟨by rw [HRES.out]; first | rfl | (simp; omega), pk_alloc _ _⟩
            · go_wp2_with fail
              all_goals
                go_ret
                exact ⟨by rw [HRES.out]; first | rfl | (simp; omega), pk_alloc _ _⟩
    · go_enter Tryz.func70, Tryz.ntmps70
      go_wp2_with fail
      refine (HF.out _).mono ?_
      rintro e w1 ⟨rfl, rfl⟩
      cases vf
      · go_wp2_with fail
        all_goals
          go_ret
          exact ⟨by rw [HRES.out]; first | rfl | (simp; omega), pk_alloc _ _⟩
      · go_wp2_with fail
        refine (HT.out _).mono ?_
        rintro e w1 ⟨rfl, rfl⟩
        cases vt
        · go_wp2_with fail
          all_goals
            go_ret
            exact ⟨by rw [HRES.out]; first | rfl | (simp; omega), pk_alloc _ _⟩
        · go_wp2_with fail
          refine (HD.out _).mono ?_
          rintro e w1 ⟨rfl, rfl⟩
          cases vd
          · go_wp2_with fail
            all_goals
              go_ret
              exact ⟨by rw [HRES.out]; first | rfl | (simp; omega), pk_alloc _ _⟩
          · cases vn
            · go_wp2_with fail
              all_goals
                go_ret
                exact ⟨by rw [HRES.out]; first | rfl | (simp; omega), pk_alloc _ _⟩
            · go_wp2_with fail
              all_goals
                go_ret
                exact ⟨by rw [HRES.out]; first | rfl | (simp; omega), pk_alloc _ _⟩

end Go.Proofs.YtdbgplnjppaimaaGreat
