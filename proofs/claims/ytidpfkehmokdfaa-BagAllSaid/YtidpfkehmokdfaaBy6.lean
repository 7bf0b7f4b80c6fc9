/- The law's own order, by; bags that compare by it. -/
import Derived.Test.YtidpfkehmokdfaaBagT
import Derived.Test.YtidpfkehmokdfaaArgs6
open Go Go.Proofs Go.RowKit Go.Maps Go.Sort Go.Shelf
namespace Go.Proofs.Ytidpfkehmokdfaa
def cmpB0 (x y : Int) : Int := if cmpI (x.tmod 10) (y.tmod 10) = 0 then cmpI x y else cmpI (x.tmod 10) (y.tmod 10)
def cmpB (back : Bool) (x y : Int) : Int := if back = true then -(cmpB0 x y) else cmpB0 x y
theorem cmpI_three (x y : Int) : cmpI x y = -1 ∨ cmpI x y = 0 ∨ cmpI x y = 1 := by unfold cmpI; split; simp; split <;> simp
set_option maxRecDepth 4000 in
theorem by1_any (back : Bool) (q : Nat) (x y : Int) (W : World) (hq : W.cell? ⟨q, 0, none⟩ = some (.bool back)) :
    Calls Try.prog 47 #[.int .i64 x, .int .i64 y, .pointer (some ⟨q, 0, none⟩)] W fun e w' => e = .returned (.int .i64 (cmpB back x y)) ∧ w' = W := by
  have C1 := Lib.hid (cmpI_any (x.tmod 10) (y.tmod 10) W)
  have C2 := Lib.hid (cmpI_any x y W)
  have h1 := cmpI_three (x.tmod 10) (y.tmod 10)
  have h2 := cmpI_three x y
  obtain ⟨r, hr⟩ : ∃ r, cmpB back x y = r := ⟨_, rfl⟩
  rw [hr]
  unfold cmpB cmpB0 at hr
  obtain ⟨a, ha⟩ : ∃ a, x.tmod 10 = a := ⟨_, rfl⟩
  obtain ⟨b, hb⟩ : ∃ b, y.tmod 10 = b := ⟨_, rfl⟩
  rw [ha, hb] at C1 h1 hr
  generalize cmpI a b = c1 at C1 h1 hr
  generalize cmpI x y = c2 at C2 h2 hr
  by_cases h0 : c1 = 0
  · have hb1 : (c1 == 0) = true := by simp [h0]
    rw [if_pos h0] at hr
    have HR := Lib.hid hr
    clear hr h0 h1
    cases back
    · go_enter Try.func47, Try.ntmps47
      go_wp2_with fail
      refine C1.out.mono ?_
      rintro e w' ⟨rfl, rfl⟩
      go_wp2_with fail
      refine C2.out.mono ?_
      rintro e w' ⟨rfl, rfl⟩
      go_wp2_with fail
      go_ret
      exact ⟨by rw [← HR.out]; rfl, rfl⟩
    · go_enter Try.func47, Try.ntmps47
      go_wp2_with fail
      refine C1.out.mono ?_
      rintro e w' ⟨rfl, rfl⟩
      go_wp2_with fail
      refine C2.out.mono ?_
      rintro e w' ⟨rfl, rfl⟩
      go_wp2_with fail
      go_ret
      exact ⟨by rw [← HR.out]; rfl, rfl⟩
  · have hb1 : (c1 == 0) = false := by simp [h0]
    rw [if_neg h0] at hr
    have HR := Lib.hid hr
    clear hr h2 h0
    cases back
    · go_enter Try.func47, Try.ntmps47
      go_wp2_with fail
      refine C1.out.mono ?_
      rintro e w' ⟨rfl, rfl⟩
      go_wp2_with fail
      go_ret
      exact ⟨by rw [← HR.out]; rfl, rfl⟩
    · go_enter Try.func47, Try.ntmps47
      go_wp2_with fail
      refine C1.out.mono ?_
      rintro e w' ⟨rfl, rfl⟩
      go_wp2_with fail
      go_ret
      exact ⟨by rw [← HR.out]; rfl, rfl⟩
abbrev byF (q : Nat) : Value := .func (.func 47) #[] #[.pointer (some ⟨q, 0, none⟩)]
def ByPost (w : World) (back : Bool) (e : Ending) (w' : World) : Prop := ∃ q, e = .returned (byF q) ∧ w'.cell? ⟨q, 0, none⟩ = some (.bool back) ∧ Keep NoF w w' ∧ w.heap.size ≤ q
theorem by_any (back : Bool) (w : World) : Calls Try.prog 14 #[.bool back] w (ByPost w back) := by
  have HC := Lib.hid (cell_of_heap (heap_new w (.cells #[.bool back] 4 (0, 0))) 0)
  have HK := Lib.hid ((Keep.refl NoF w).alloc (.cells #[.bool back] 4 (0, 0)))
  go_enter Try.func14, Try.ntmps14
  go_wp2_with fail
  go_ret
  exact ⟨w.heap.size, rfl, HC.out, HK.out, Nat.le_refl _⟩
def keyB (back : Bool) (x : Int) : Int := if back = true then -((x.tmod 10) * 1000 + x) else (x.tmod 10) * 1000 + x
def okB (x : Int) : Prop := -400 ≤ x ∧ x ≤ 400
theorem keyB_C (back : Bool) : KeyC (cmpB back) (keyB back) okB := by
  constructor
  · intro x y hx hy
    have h1 := tmod_bounds x 10 (by omega)
    have h2 := tmod_bounds y 10 (by omega)
    unfold cmpB keyB cmpB0 cmpI
    unfold okB at hx hy
    generalize x.tmod 10 = a at h1 ⊢
    generalize y.tmod 10 = b at h2 ⊢
    cases back <;> simp only [if_true, Bool.false_eq_true, if_false]
    · repeat' split
      all_goals omega
    · repeat' split
      all_goals omega
  · intro x y hx hy
    have h1 := tmod_bounds x 10 (by omega)
    have h2 := tmod_bounds y 10 (by omega)
    unfold cmpB keyB cmpB0 cmpI
    unfold okB at hx hy
    generalize hga : x.tmod 10 = a at h1 ⊢
    generalize hgb : y.tmod 10 = b at h2 ⊢
    have hab : x = y → a = b := fun e => by rw [← hga, ← hgb, e]
    cases back <;> simp only [if_true, Bool.false_eq_true, if_false]
    · repeat' split
      all_goals omega
    · repeat' split
      all_goals omega
theorem keyB_inj (back : Bool) : ∀ x y, okB x → okB y → keyB back x = keyB back y → x = y := by
  intro x y hx hy h
  have h1 := tmod_bounds x 10 (by omega)
  have h2 := tmod_bounds y 10 (by omega)
  unfold keyB at h
  unfold okB at hx hy
  generalize x.tmod 10 = a at h1 h
  generalize y.tmod 10 = b at h2 h
  cases back <;> simp only [if_true, Bool.false_eq_true, if_false] at h <;> omega
def AddWI (c : Int → Int → Int) (w : World) (b g : Nat) (cb : Array Value) (v : Value) (l : List (Int × Int)) (t n : Int) (e : Ending) (w' : World) : Prop :=
  ∃ v', e = .returned (.int .i64 (nowWI c l t n)) ∧ BagI w' b g cb v' (addWI c l t n) ∧ Keep (fun k => k = b ∨ v.ownBlock = some k) w w' ∧ (∀ k, v'.ownBlock = some k → v.ownBlock = some k ∨ w.heap.size ≤ k)
/-- Add, at whichever way of comparing whose law is known. -/
theorem addC_any (c : Int → Int → Int) (key : Int → Int) (ok : Int → Prop) (hc : KeyC c key ok) (g : Nat) (cb : Array Value) (eg : ∀ args w, (callFunc g args).run Try.prog w = .ok (.enter g args) w) (b : Nat) (v : Value) (l : List (Int × Int)) (t n : Int) (w : World) (h : BagI w b g cb v l)
    (hlaw : ∀ W, Keep NoF w W → ∀ x, Calls Try.prog g (#[.int .i64 x, .int .i64 t] ++ cb) W fun e w' => e = .returned (.int .i64 (c x t)) ∧ Keep NoF W w')
    (hs : SortK key l) (ho : ∀ p ∈ l, ok p.1) (ht : ok t) (hn : l.length ≤ 1000000) (hb : ∀ p ∈ l, 0 ≤ p.2 ∧ p.2 ≤ 1000000) (hnb : -1000000 ≤ n ∧ n ≤ 1000000) :
    Calls Try.prog 15 #[.pointer (some ⟨b, 0, none⟩), .int .i64 t, .int .i64 n] w (AddWI c w b g cb v l t n) := by
  refine (addI_any b g cb eg v l t n (fun y => c y t) w h hn (fun W hW p _ => hlaw W hW p.1) (sort_mono hc hs ho ht) hb hnb).mono ?_
  rintro e w' ⟨i, v', hb, rfl, h1, h2, h3⟩
  have := posI_eq l _ i hb
  refine ⟨v', ?_, ?_, h2, h3⟩
  · unfold nowWI; rw [this]
  · unfold addWI; rw [this]; exact h1
theorem enterB : ∀ args w, (callFunc 47 args).run Try.prog w = .ok (.enter 47 args) w := enters_of Try.func47 (by kernel_rfl) rfl
theorem lawB (back : Bool) (q : Nat) (t : Int) (w : World) (hq : w.cell? ⟨q, 0, none⟩ = some (.bool back)) : ∀ W, Keep NoF w W → ∀ x, Calls Try.prog 47 (#[.int .i64 x, .int .i64 t] ++ #[.pointer (some ⟨q, 0, none⟩)]) W fun e w' => e = .returned (.int .i64 (cmpB back x t)) ∧ Keep NoF W w' := by
  intro W hW x
  refine (by1_any back q x t W (hW.cell' hq (fun f => f))).mono ?_
  rintro e w' ⟨rfl, rfl⟩
  exact ⟨rfl, Keep.refl _ _⟩
/-- What a bag stands for. -/
structure Rep (key : Int → Int) (ok : Int → Prop) (l : List (Int × Int)) (s : Int) (f : Int → Int) : Prop where
  sort : SortK key l
  ok : ∀ p ∈ l, ok p.1
  pos : ∀ p ∈ l, 1 ≤ p.2
  sum : sumI l = s
  cnt : ∀ k, cntK key l k = f k
theorem sum_mem : ∀ (l : List (Int × Int)), (∀ p ∈ l, 1 ≤ p.2) → (∀ p ∈ l, p.2 ≤ sumI l) ∧ (l.length : Int) ≤ sumI l
  | [], _ => by simp [sumI]
  | p :: l, h => by
    obtain ⟨h1, h2⟩ := sum_mem l (fun q hq => h q (List.mem_cons_of_mem _ hq))
    have h3 := h p (by simp)
    have e : sumI (p :: l) = p.2 + sumI l := by simp [sumI]
    rw [e]
    refine ⟨fun q hq => ?_, by simp; omega⟩
    rcases List.mem_cons.1 hq with rfl | hq
    · omega
    · have := h1 q hq; omega
theorem Rep.bounds {key : Int → Int} {ok : Int → Prop} {l : List (Int × Int)} {s : Int} {f : Int → Int} (h : Rep key ok l s f) (hs : s ≤ 1000000) : l.length ≤ 1000000 ∧ ∀ p ∈ l, 0 ≤ p.2 ∧ p.2 ≤ 1000000 := by
  obtain ⟨h1, h2⟩ := sum_mem l h.pos
  rw [h.sum] at h1 h2
  exact ⟨by omega, fun p hp => by have := h1 p hp; have := h.pos p hp; omega⟩
theorem Rep.add {c : Int → Int → Int} {key : Int → Int} {ok : Int → Prop} (hc : KeyC c key ok) {l : List (Int × Int)} {s : Int} {f : Int → Int} (h : Rep key ok l s f) {t : Int} (ht : ok t) (n : Int) (hn : 0 ≤ f (key t) + n) :
    Rep key ok (addWI c l t n) (s + n) (fun k => if k = key t then f k + n else f k) ∧ nowWI c l t n = f (key t) + n := by
  obtain ⟨h1, h2, h3, h4, h5, h6⟩ := add_all hc h.sort h.ok ht n
  have e : nowWI c l t n = f (key t) + n := by rw [h3, h.cnt]; omega
  refine ⟨⟨h1, h2, fun p hp => ?_, by rw [h5, h.sum, h.cnt, e]; omega, fun k => ?_⟩, e⟩
  · rcases h6 p hp with q | q
    · exact h.pos p q
    · exact q.2
  · rw [h4, e]
    by_cases hk : k = key t
    · rw [if_pos hk, hk]; simp
    · rw [if_neg hk, if_neg hk, h.cnt]
end Go.Proofs.Ytidpfkehmokdfaa
