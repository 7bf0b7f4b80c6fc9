/- How texts, numbers compare. -/
import Derived.Test.YtdbgplnjppaimaaGreatBagS2
import Derived.Test.YtdbgplnjppaimaaGreatBagI2
open Go Go.Proofs Go.RowKit Go.Maps Go.Sort Go.Shelf
namespace Go.Proofs.YtdbgplnjppaimaaGreat
theorem nanS_any (x : ByteArray) (w : World) : Calls Tryz.prog 75 #[.string x] w fun e w' => e = .returned (.bool false) ∧ w' = w := by
  go_enter Tryz.func75, Tryz.ntmps75
  go_wp2_with fail
  go_ret
  exact ⟨rfl, rfl⟩
def cmpI (x y : Int) : Int := if x < y then -1 else if y < x then 1 else 0
def cmpS (x y : ByteArray) : Int := if Op.bytesLess x.toList y.toList = true then -1 else if (x.toList == y.toList) = true then 0 else 1
theorem cmpS_any (x y : ByteArray) (w : World) : Calls Tryz.prog 55 #[.string x, .string y] w fun e w' => e = .returned (.int .i64 (cmpS x y)) ∧ w' = w := by
  have N1 := Lib.hid (nanS_any x w); have N2 := Lib.hid (nanS_any y w)
  unfold cmpS
  rcases hb : Op.bytesLess x.toList y.toList with _ | _
  · rw [if_neg (by simp)]
    rcases he : (x.toList == y.toList) with _ | _
    · rw [if_neg (by simp)]
      go_enter Tryz.func55, Tryz.ntmps55
      go_wp2_with fail
      refine N1.out.mono ?_
      rintro e w' ⟨rfl, rfl⟩
      go_wp2_with fail
      refine N2.out.mono ?_
      rintro e w' ⟨rfl, rfl⟩
      go_wp2_with fail
      go_ret
      exact ⟨rfl, rfl⟩
    · rw [if_pos rfl]
      go_enter Tryz.func55, Tryz.ntmps55
      go_wp2_with fail
      refine N1.out.mono ?_
      rintro e w' ⟨rfl, rfl⟩
      go_wp2_with fail
      refine N2.out.mono ?_
      rintro e w' ⟨rfl, rfl⟩
      go_wp2_with fail
      go_ret
      exact ⟨rfl, rfl⟩
  · rw [if_pos rfl]
    go_enter Tryz.func55, Tryz.ntmps55
    go_wp2_with fail
    refine N1.out.mono ?_
    rintro e w' ⟨rfl, rfl⟩
    go_wp2_with fail
    refine N2.out.mono ?_
    rintro e w' ⟨rfl, rfl⟩
    go_wp2_with fail
    go_ret
    exact ⟨rfl, rfl⟩
theorem posI_eq : ∀ (l : List (Int × Int)) (cf : Int → Int) (i : Nat), BsPI l cf i → (l.takeWhile fun p => decide (cf p.1 < 0)).length = i
  | [], cf, i, h => by have h1 := h.1; simp at h1; subst h1; rfl
  | p :: l, cf, 0, h => by
    have h1 := h.2.2 0 (by simp) (Nat.le_refl _)
    simp at h1
    simp [show ¬ cf p.1 < 0 by omega]
  | p :: l, cf, i + 1, h => by
    have h0 := h.2.1 0 (by simp) (by omega)
    simp at h0
    have ih := posI_eq l cf i ⟨by have := h.1; simpa using this, fun k hk hlt => h.2.1 (k + 1) (by simpa using hk) (by omega), fun k hk hlt => h.2.2 (k + 1) (by simpa using hk) (by omega)⟩
    simp [h0, ih]
theorem posS_eq : ∀ (l : List (ByteArray × Int)) (cf : ByteArray → Int) (i : Nat), BsPS l cf i → (l.takeWhile fun p => decide (cf p.1 < 0)).length = i
  | [], cf, i, h => by have h1 := h.1; simp at h1; subst h1; rfl
  | p :: l, cf, 0, h => by
    have h1 := h.2.2 0 (by simp) (Nat.le_refl _)
    simp at h1
    simp [show ¬ cf p.1 < 0 by omega]
  | p :: l, cf, i + 1, h => by
    have h0 := h.2.1 0 (by simp) (by omega)
    simp at h0
    have ih := posS_eq l cf i ⟨by have := h.1; simpa using this, fun k hk hlt => h.2.1 (k + 1) (by simpa using hk) (by omega), fun k hk hlt => h.2.2 (k + 1) (by simpa using hk) (by omega)⟩
    simp [h0, ih]
/-- What Add leaves behind, what it says. -/
def addWI (c : Int → Int → Int) (l : List (Int × Int)) (t n : Int) : List (Int × Int) := addI l (fun y => c y t) (l.takeWhile fun p => decide (c p.1 t < 0)).length t n
def nowWI (c : Int → Int → Int) (l : List (Int × Int)) (t n : Int) : Int := nowI l (fun y => c y t) (l.takeWhile fun p => decide (c p.1 t < 0)).length n
def addWS (c : ByteArray → ByteArray → Int) (l : List (ByteArray × Int)) (t : ByteArray) (n : Int) : List (ByteArray × Int) := addS l (fun y => c y t) (l.takeWhile fun p => decide (c p.1 t < 0)).length t n
def nowWS (c : ByteArray → ByteArray → Int) (l : List (ByteArray × Int)) (t : ByteArray) (n : Int) : Int := nowS l (fun y => c y t) (l.takeWhile fun p => decide (c p.1 t < 0)).length n
def AddWS (c : ByteArray → ByteArray → Int) (w : World) (b g : Nat) (cb : Array Value) (v : Value) (l : List (ByteArray × Int)) (t : ByteArray) (n : Int) (e : Ending) (w' : World) : Prop :=
  ∃ v', e = .returned (.int .i64 (nowWS c l t n)) ∧ BagS w' b g cb v' (addWS c l t n) ∧ Keep (fun k => k = b ∨ v.ownBlock = some k) w w' ∧ (∀ k, v'.ownBlock = some k → v.ownBlock = some k ∨ w.heap.size ≤ k)
theorem enterS : ∀ args w, (callFunc 55 args).run Tryz.prog w = .ok (.enter 55 args) w := enters_of Tryz.func55 (by kernel_rfl) rfl
/-- Add to a bag of texts that compares by cmp.Compare. -/
theorem addCS_any (b : Nat) (v : Value) (l : List (ByteArray × Int)) (t : ByteArray) (n : Int) (w : World) (h : BagS w b 55 #[] v l) (hn : l.length ≤ 1000000)
    (hmono : ∀ i j (hi : i < l.length) (hj : j < l.length), i ≤ j → cmpS l[j].1 t < 0 → cmpS l[i].1 t < 0) (hb : ∀ p ∈ l, 0 ≤ p.2 ∧ p.2 ≤ 1000000) (hnb : -1000000 ≤ n ∧ n ≤ 1000000) :
    Calls Tryz.prog 57 #[.pointer (some ⟨b, 0, none⟩), .string t, .int .i64 n] w (AddWS cmpS w b 55 #[] v l t n) := by
  refine (addS_any b 55 #[] enterS v l t n (fun y => cmpS y t) w h hn (fun W _ p _ => ?_) hmono hb hnb).mono ?_
  · refine (cmpS_any p.1 t W).mono ?_
    rintro e w' ⟨rfl, rfl⟩
    exact ⟨rfl, Keep.refl _ _⟩
  · rintro e w' ⟨i, v', hb, rfl, h1, h2, h3⟩
    have := posS_eq l _ i hb
    refine ⟨v', ?_, ?_, h2, h3⟩
    · unfold nowWS; rw [this]
    · unfold addWS; rw [this]; exact h1
end Go.Proofs.YtdbgplnjppaimaaGreat
