/- A law's call with arguments that have no place. -/
import Derived.Test.YtkjdclpneaepkaaGreatEvB0
import Derived.Test.YtkjdclpneaepkaaGreatBase
import Derived.IntWalk
import Derived.OpenShut
open Go Go.Ev
namespace Go.Ev
/-- A function called with values that have no place in them, reckoned from an empty memory: it answers true anywhere, and changes nothing. -/
theorem law_flat {P : Program} {c : CallF} (hC : CallOk P c) {f : Nat} {args : AV} {vs : List Value} (hv : Vs (fun _ => none) args vs) (e : okT (c f args .lf .e) = true) (w : World) :
    Calls P f vs.toArray w fun x w' => x = .returned (.bool true) ∧ Gr w w' := by
  cases q : c f args .lf .e with
  | bad k => rw [q] at e; cases e
  | ok v h1 n1 =>
    rw [q] at e
    have H0 : HR (fun _ => none) .lf .e w := ⟨fun id p q => (by cases q), fun id b q => (by rw [getP_lf] at q; cases q), fun id id' b b' g t t' q => (by rw [getP_lf] at q; cases q)⟩
    refine Calls.mono (hC f args .lf .e v h1 n1 _ w vs H0 hv q).2 fun x w' ⟨ρ', u, k1, k2, k3, k4⟩ => ?_
    have hk : ∀ g, g < w.heap.size → w'.heap[g]? = w.heap[g]? := fun g hg => k4.keep g hg fun ⟨id, b, t, q, _⟩ => by rw [getP_lf] at q; cases q
    refine ⟨?_, ⟨k4.os, k4.tape, k4.output, k4.size, hk⟩⟩
    cases v <;> first
      | (cases (show _ = true from e); rw [k1, show u = _ from k2])
      | cases e
end Go.Ev
namespace Go.Proofs.YtkjdclpneaepkaaGreat
open Go.Proofs Go.RowKit
noncomputable def TL : T Hook := setP (some hTrue) (path 14) T3
theorem okL : HookOk Tryz.prog (fun f => getP (path f) TL) := hook_add ok3 beg0
noncomputable def cL : CallF := runXT Tryz.prog tbAll (fun f => getP (path f) TL) 200
theorem okCL : CallOk Tryz.prog cL := runXT_ok kTAll fnAll mixed okL 200
theorem grKeep {w w' : World} (k : Gr w w') : Keep NoF w w' := ⟨k.os, k.tape, k.output, k.size, fun g hg _ => k.keep g hg⟩
theorem begtop (w : World) : Calls Tryz.prog 14 #[] w fun x w' => x = .returned (.bool true) ∧ Keep NoF w w' :=
  (law_flat (runXT_ok kTAll fnAll mixed okB0 200) (args := .nl) (vs := []) rfl evB0 w).mono fun _ _ h => ⟨h.1, grKeep h.2⟩
theorem small_any (x : Int) (hx : (Lit.int .i64 x).wf = true) (k : Nat) (hk : 0 < k) (hk2 : k ≤ 1000) (w : World) : Calls Tryz.prog 26 #[.int .i64 x, .int .i64 (k : Int)] w fun e w' => ∃ r : Nat, r < k ∧ e = .returned (.int .i64 (r : Int)) ∧ w' = w := by
  have hb := bounds_i64 hx
  have hk0 : ((k : Int) == 0) = false := by simp; omega
  have h1 : x.tmod k < k := Int.tmod_lt_of_pos x (by omega)
  have h2 : -(k : Int) < x.tmod k := by have := Int.tmod_lt_of_pos (-x) (b := (k : Int)) (by omega); rw [Int.neg_tmod] at this; omega
  obtain ⟨y, hy⟩ : ∃ y, x.tmod k = y := ⟨_, rfl⟩
  rw [hy] at h1 h2
  by_cases hn : y < 0
  · obtain ⟨r, hr⟩ : ∃ r : Nat, -y = (r : Int) := ⟨(-y).toNat, by omega⟩
    have hw : IntKind.i64.wrap (-y) = (r : Int) := by rw [IntWalk.i64_in _ (by omega)]; exact hr
    have hrk : r < k := by omega
    clear hr h1 h2
    go_enter Tryz.func26, Tryz.ntmps26
    go_wp2_with fail
    go_ret
    exact ⟨r, hrk, rfl, rfl⟩
  · obtain ⟨r, rfl⟩ : ∃ r : Nat, y = (r : Int) := ⟨y.toNat, by omega⟩
    have hrk : r < k := by omega
    clear h1 h2
    go_enter Tryz.func26, Tryz.ntmps26
    go_wp2_with fail
    go_ret
    exact ⟨r, hrk, rfl, rfl⟩
/-- One whole number. -/
theorem law_i {f : Nat} (n : Nat) (e : okT (cL f (.cn (.i .i64 (.ofNat n)) .nl) .lf .e) = true) (w : World) : Calls Tryz.prog f #[.int .i64 (n : Int)] w fun x w' => x = .returned (.bool true) ∧ Keep NoF w w' :=
  (law_flat okCL (args := .cn (.i .i64 (.ofNat n)) .nl) (vs := [.int .i64 (n : Int)]) ⟨_, _, rfl, rfl, rfl⟩ e w).mono fun _ _ h => ⟨h.1, grKeep h.2⟩
theorem law_b {f : Nat} (b : Bool) (e : okT (cL f (.cn (.b b) .nl) .lf .e) = true) (w : World) : Calls Tryz.prog f #[.bool b] w fun x w' => x = .returned (.bool true) ∧ Keep NoF w w' :=
  (law_flat okCL (args := .cn (.b b) .nl) (vs := [.bool b]) ⟨_, _, rfl, rfl, rfl⟩ e w).mono fun _ _ h => ⟨h.1, grKeep h.2⟩
end Go.Proofs.YtkjdclpneaepkaaGreat
