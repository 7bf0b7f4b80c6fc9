/- TopRequests: every row of different requests. -/
import Derived.Test.YtkjdclpneaepkaaGreatEvR2
import Derived.Test.YtkjdclpneaepkaaGreatTTopRequestsA
import Derived.Test.YtkjdclpneaepkaaGreatTTopRequestsB
import Derived.Test.YtkjdclpneaepkaaGreatTTopRequestsC
import Derived.Test.YtkjdclpneaepkaaGreatTTopRequestsD
import Derived.Test.YtkjdclpneaepkaaGreatTTopRequestsE
import Derived.Test.YtkjdclpneaepkaaGreatTTopRequestsF
import Derived.Test.YtkjdclpneaepkaaGreatTTopRequestsG
set_option linter.unusedVariables false
open Go Go.Ev Go.Proofs
namespace Go.Proofs.YtkjdclpneaepkaaGreat.Rq
theorem d01 (x0 : AV) (c : Nat) (hc : c < 5) (h0 : c ≠ 0) (h1 : c ≠ 1) : S x0 [c, 1, 0] (tree 2 [c, 1, 0]) = true :=
  match c, hc, h0, h1 with
  | 0, _, h, _ => absurd rfl h
  | 1, _, _, h => absurd rfl h
  | 2, _, _, _ => d012 x0
  | 3, _, _, _ => d013 x0
  | 4, _, _, _ => d014 x0
  | n + 5, h, _, _ => absurd h (by omega)
theorem d02 (x0 : AV) (c : Nat) (hc : c < 5) (h0 : c ≠ 0) (h1 : c ≠ 2) : S x0 [c, 2, 0] (tree 2 [c, 2, 0]) = true :=
  match c, hc, h0, h1 with
  | 0, _, h, _ => absurd rfl h
  | 1, _, _, _ => d021 x0
  | 2, _, _, h => absurd rfl h
  | 3, _, _, _ => d023 x0
  | 4, _, _, _ => d024 x0
  | n + 5, h, _, _ => absurd h (by omega)
theorem d03 (x0 : AV) (c : Nat) (hc : c < 5) (h0 : c ≠ 0) (h1 : c ≠ 3) : S x0 [c, 3, 0] (tree 2 [c, 3, 0]) = true :=
  match c, hc, h0, h1 with
  | 0, _, h, _ => absurd rfl h
  | 1, _, _, _ => d031 x0
  | 2, _, _, _ => d032 x0
  | 3, _, _, h => absurd rfl h
  | 4, _, _, _ => d034 x0
  | n + 5, h, _, _ => absurd h (by omega)
theorem d04 (x0 : AV) (c : Nat) (hc : c < 5) (h0 : c ≠ 0) (h1 : c ≠ 4) : S x0 [c, 4, 0] (tree 2 [c, 4, 0]) = true :=
  match c, hc, h0, h1 with
  | 0, _, h, _ => absurd rfl h
  | 1, _, _, _ => d041 x0
  | 2, _, _, _ => d042 x0
  | 3, _, _, _ => d043 x0
  | 4, _, _, h => absurd rfl h
  | n + 5, h, _, _ => absurd h (by omega)
theorem d0 (x0 : AV) (b c : Nat) (hb : b < 5) (hc : c < 5) (h0 : b ≠ 0) (h1 : c ≠ 0) (h2 : c ≠ b) : S x0 [c, b, 0] (tree 2 [c, b, 0]) = true :=
  match b, hb, h0, h2 with
  | 0, _, h, _ => absurd rfl h
  | 1, _, _, h => d01 x0 c hc h1 h
  | 2, _, _, h => d02 x0 c hc h1 h
  | 3, _, _, h => d03 x0 c hc h1 h
  | 4, _, _, h => d04 x0 c hc h1 h
  | n + 5, h, _, _ => absurd h (by omega)
theorem d10 (x0 : AV) (c : Nat) (hc : c < 5) (h0 : c ≠ 1) (h1 : c ≠ 0) : S x0 [c, 0, 1] (tree 2 [c, 0, 1]) = true :=
  match c, hc, h0, h1 with
  | 0, _, _, h => absurd rfl h
  | 1, _, h, _ => absurd rfl h
  | 2, _, _, _ => d102 x0
  | 3, _, _, _ => d103 x0
  | 4, _, _, _ => d104 x0
  | n + 5, h, _, _ => absurd h (by omega)
theorem d12 (x0 : AV) (c : Nat) (hc : c < 5) (h0 : c ≠ 1) (h1 : c ≠ 2) : S x0 [c, 2, 1] (tree 2 [c, 2, 1]) = true :=
  match c, hc, h0, h1 with
  | 0, _, _, _ => d120 x0
  | 1, _, h, _ => absurd rfl h
  | 2, _, _, h => absurd rfl h
  | 3, _, _, _ => d123 x0
  | 4, _, _, _ => d124 x0
  | n + 5, h, _, _ => absurd h (by omega)
theorem d13 (x0 : AV) (c : Nat) (hc : c < 5) (h0 : c ≠ 1) (h1 : c ≠ 3) : S x0 [c, 3, 1] (tree 2 [c, 3, 1]) = true :=
  match c, hc, h0, h1 with
  | 0, _, _, _ => d130 x0
  | 1, _, h, _ => absurd rfl h
  | 2, _, _, _ => d132 x0
  | 3, _, _, h => absurd rfl h
  | 4, _, _, _ => d134 x0
  | n + 5, h, _, _ => absurd h (by omega)
theorem d14 (x0 : AV) (c : Nat) (hc : c < 5) (h0 : c ≠ 1) (h1 : c ≠ 4) : S x0 [c, 4, 1] (tree 2 [c, 4, 1]) = true :=
  match c, hc, h0, h1 with
  | 0, _, _, _ => d140 x0
  | 1, _, h, _ => absurd rfl h
  | 2, _, _, _ => d142 x0
  | 3, _, _, _ => d143 x0
  | 4, _, _, h => absurd rfl h
  | n + 5, h, _, _ => absurd h (by omega)
theorem d1 (x0 : AV) (b c : Nat) (hb : b < 5) (hc : c < 5) (h0 : b ≠ 1) (h1 : c ≠ 1) (h2 : c ≠ b) : S x0 [c, b, 1] (tree 2 [c, b, 1]) = true :=
  match b, hb, h0, h2 with
  | 0, _, _, h => d10 x0 c hc h1 h
  | 1, _, h, _ => absurd rfl h
  | 2, _, _, h => d12 x0 c hc h1 h
  | 3, _, _, h => d13 x0 c hc h1 h
  | 4, _, _, h => d14 x0 c hc h1 h
  | n + 5, h, _, _ => absurd h (by omega)
theorem d20 (x0 : AV) (c : Nat) (hc : c < 5) (h0 : c ≠ 2) (h1 : c ≠ 0) : S x0 [c, 0, 2] (tree 2 [c, 0, 2]) = true :=
  match c, hc, h0, h1 with
  | 0, _, _, h => absurd rfl h
  | 1, _, _, _ => d201 x0
  | 2, _, h, _ => absurd rfl h
  | 3, _, _, _ => d203 x0
  | 4, _, _, _ => d204 x0
  | n + 5, h, _, _ => absurd h (by omega)
theorem d21 (x0 : AV) (c : Nat) (hc : c < 5) (h0 : c ≠ 2) (h1 : c ≠ 1) : S x0 [c, 1, 2] (tree 2 [c, 1, 2]) = true :=
  match c, hc, h0, h1 with
  | 0, _, _, _ => d210 x0
  | 1, _, _, h => absurd rfl h
  | 2, _, h, _ => absurd rfl h
  | 3, _, _, _ => d213 x0
  | 4, _, _, _ => d214 x0
  | n + 5, h, _, _ => absurd h (by omega)
theorem d23 (x0 : AV) (c : Nat) (hc : c < 5) (h0 : c ≠ 2) (h1 : c ≠ 3) : S x0 [c, 3, 2] (tree 2 [c, 3, 2]) = true :=
  match c, hc, h0, h1 with
  | 0, _, _, _ => d230 x0
  | 1, _, _, _ => d231 x0
  | 2, _, h, _ => absurd rfl h
  | 3, _, _, h => absurd rfl h
  | 4, _, _, _ => d234 x0
  | n + 5, h, _, _ => absurd h (by omega)
theorem d24 (x0 : AV) (c : Nat) (hc : c < 5) (h0 : c ≠ 2) (h1 : c ≠ 4) : S x0 [c, 4, 2] (tree 2 [c, 4, 2]) = true :=
  match c, hc, h0, h1 with
  | 0, _, _, _ => d240 x0
  | 1, _, _, _ => d241 x0
  | 2, _, h, _ => absurd rfl h
  | 3, _, _, _ => d243 x0
  | 4, _, _, h => absurd rfl h
  | n + 5, h, _, _ => absurd h (by omega)
theorem d2 (x0 : AV) (b c : Nat) (hb : b < 5) (hc : c < 5) (h0 : b ≠ 2) (h1 : c ≠ 2) (h2 : c ≠ b) : S x0 [c, b, 2] (tree 2 [c, b, 2]) = true :=
  match b, hb, h0, h2 with
  | 0, _, _, h => d20 x0 c hc h1 h
  | 1, _, _, h => d21 x0 c hc h1 h
  | 2, _, h, _ => absurd rfl h
  | 3, _, _, h => d23 x0 c hc h1 h
  | 4, _, _, h => d24 x0 c hc h1 h
  | n + 5, h, _, _ => absurd h (by omega)
theorem d30 (x0 : AV) (c : Nat) (hc : c < 5) (h0 : c ≠ 3) (h1 : c ≠ 0) : S x0 [c, 0, 3] (tree 2 [c, 0, 3]) = true :=
  match c, hc, h0, h1 with
  | 0, _, _, h => absurd rfl h
  | 1, _, _, _ => d301 x0
  | 2, _, _, _ => d302 x0
  | 3, _, h, _ => absurd rfl h
  | 4, _, _, _ => d304 x0
  | n + 5, h, _, _ => absurd h (by omega)
theorem d31 (x0 : AV) (c : Nat) (hc : c < 5) (h0 : c ≠ 3) (h1 : c ≠ 1) : S x0 [c, 1, 3] (tree 2 [c, 1, 3]) = true :=
  match c, hc, h0, h1 with
  | 0, _, _, _ => d310 x0
  | 1, _, _, h => absurd rfl h
  | 2, _, _, _ => d312 x0
  | 3, _, h, _ => absurd rfl h
  | 4, _, _, _ => d314 x0
  | n + 5, h, _, _ => absurd h (by omega)
theorem d32 (x0 : AV) (c : Nat) (hc : c < 5) (h0 : c ≠ 3) (h1 : c ≠ 2) : S x0 [c, 2, 3] (tree 2 [c, 2, 3]) = true :=
  match c, hc, h0, h1 with
  | 0, _, _, _ => d320 x0
  | 1, _, _, _ => d321 x0
  | 2, _, _, h => absurd rfl h
  | 3, _, h, _ => absurd rfl h
  | 4, _, _, _ => d324 x0
  | n + 5, h, _, _ => absurd h (by omega)
theorem d34 (x0 : AV) (c : Nat) (hc : c < 5) (h0 : c ≠ 3) (h1 : c ≠ 4) : S x0 [c, 4, 3] (tree 2 [c, 4, 3]) = true :=
  match c, hc, h0, h1 with
  | 0, _, _, _ => d340 x0
  | 1, _, _, _ => d341 x0
  | 2, _, _, _ => d342 x0
  | 3, _, h, _ => absurd rfl h
  | 4, _, _, h => absurd rfl h
  | n + 5, h, _, _ => absurd h (by omega)
theorem d3 (x0 : AV) (b c : Nat) (hb : b < 5) (hc : c < 5) (h0 : b ≠ 3) (h1 : c ≠ 3) (h2 : c ≠ b) : S x0 [c, b, 3] (tree 2 [c, b, 3]) = true :=
  match b, hb, h0, h2 with
  | 0, _, _, h => d30 x0 c hc h1 h
  | 1, _, _, h => d31 x0 c hc h1 h
  | 2, _, _, h => d32 x0 c hc h1 h
  | 3, _, h, _ => absurd rfl h
  | 4, _, _, h => d34 x0 c hc h1 h
  | n + 5, h, _, _ => absurd h (by omega)
theorem d40 (x0 : AV) (c : Nat) (hc : c < 5) (h0 : c ≠ 4) (h1 : c ≠ 0) : S x0 [c, 0, 4] (tree 2 [c, 0, 4]) = true :=
  match c, hc, h0, h1 with
  | 0, _, _, h => absurd rfl h
  | 1, _, _, _ => d401 x0
  | 2, _, _, _ => d402 x0
  | 3, _, _, _ => d403 x0
  | 4, _, h, _ => absurd rfl h
  | n + 5, h, _, _ => absurd h (by omega)
theorem d41 (x0 : AV) (c : Nat) (hc : c < 5) (h0 : c ≠ 4) (h1 : c ≠ 1) : S x0 [c, 1, 4] (tree 2 [c, 1, 4]) = true :=
  match c, hc, h0, h1 with
  | 0, _, _, _ => d410 x0
  | 1, _, _, h => absurd rfl h
  | 2, _, _, _ => d412 x0
  | 3, _, _, _ => d413 x0
  | 4, _, h, _ => absurd rfl h
  | n + 5, h, _, _ => absurd h (by omega)
theorem d42 (x0 : AV) (c : Nat) (hc : c < 5) (h0 : c ≠ 4) (h1 : c ≠ 2) : S x0 [c, 2, 4] (tree 2 [c, 2, 4]) = true :=
  match c, hc, h0, h1 with
  | 0, _, _, _ => d420 x0
  | 1, _, _, _ => d421 x0
  | 2, _, _, h => absurd rfl h
  | 3, _, _, _ => d423 x0
  | 4, _, h, _ => absurd rfl h
  | n + 5, h, _, _ => absurd h (by omega)
theorem d43 (x0 : AV) (c : Nat) (hc : c < 5) (h0 : c ≠ 4) (h1 : c ≠ 3) : S x0 [c, 3, 4] (tree 2 [c, 3, 4]) = true :=
  match c, hc, h0, h1 with
  | 0, _, _, _ => d430 x0
  | 1, _, _, _ => d431 x0
  | 2, _, _, _ => d432 x0
  | 3, _, _, h => absurd rfl h
  | 4, _, h, _ => absurd rfl h
  | n + 5, h, _, _ => absurd h (by omega)
theorem d4 (x0 : AV) (b c : Nat) (hb : b < 5) (hc : c < 5) (h0 : b ≠ 4) (h1 : c ≠ 4) (h2 : c ≠ b) : S x0 [c, b, 4] (tree 2 [c, b, 4]) = true :=
  match b, hb, h0, h2 with
  | 0, _, _, h => d40 x0 c hc h1 h
  | 1, _, _, h => d41 x0 c hc h1 h
  | 2, _, _, h => d42 x0 c hc h1 h
  | 3, _, _, h => d43 x0 c hc h1 h
  | 4, _, h, _ => absurd rfl h
  | n + 5, h, _, _ => absurd h (by omega)
theorem deep (x0 : AV) (a b c : Nat) (ha : a < 5) (hb : b < 5) (hc : c < 5) (h0 : b ≠ a) (h1 : c ≠ a) (h2 : c ≠ b) : S x0 [c, b, a] (tree 2 [c, b, a]) = true :=
  match a, ha, h0, h1 with
  | 0, _, h, h' => d0 x0 b c hb hc h h' h2
  | 1, _, h, h' => d1 x0 b c hb hc h h' h2
  | 2, _, h, h' => d2 x0 b c hb hc h h' h2
  | 3, _, h, h' => d3 x0 b c hb hc h h' h2
  | 4, _, h, h' => d4 x0 b c hb hc h h' h2
  | n + 5, h, _, _ => absurd h (by omega)
theorem short (x0 : AV) (a : Nat) (ha : a < 5) : S x0 [a] (tree 1 [a]) = true :=
  match a, ha with
  | 0, _ => m0 x0
  | 1, _ => m1 x0
  | 2, _ => m2 x0
  | 3, _ => m3 x0
  | 4, _ => m4 x0
  | n + 5, h => absurd h (by omega)
theorem row3 (x0 : AV) {a b c : Nat} (n : [c, b, a].Nodup) (h : ∀ v ∈ [c, b, a], v < 5) : S x0 [c, b, a] (tree 2 [c, b, a]) = true := by
  simp only [List.nodup_cons, List.mem_cons, List.not_mem_nil, or_false, not_or] at n
  exact deep x0 a b c (h a (by simp)) (h b (by simp)) (h c (by simp)) n.2.1 n.1.2 n.1.1
theorem row4 (x0 : AV) {a b c d : Nat} (n : [d, c, b, a].Nodup) (h : ∀ v ∈ [d, c, b, a], v < 5) : S x0 [d, c, b, a] (tree 1 [d, c, b, a]) = true := by
  have n1 := List.nodup_cons.1 n
  exact tree_step (row3 x0 n1.2 fun v q => h v (List.mem_cons_of_mem _ q)) (h d (by simp)) n1.1
/-- Every row of different requests: its state is well. -/
theorem every (x0 : AV) : ∀ σ : List Nat, σ.Nodup → (∀ v ∈ σ, v < 5) → S x0 σ (chk σ) = true
  | [], _, _ => m x0
  | [a], _, h => tree_chk (short x0 a (h a (by simp)))
  | [b, a], n, h => by
    have n1 := List.nodup_cons.1 n
    exact tree_chk (tree_step (short x0 a (h a (by simp))) (h b (by simp)) n1.1)
  | [c, b, a], n, h => tree_chk (row3 x0 n h)
  | [d, c, b, a], n, h => tree_chk (row4 x0 n h)
  | [e, d, c, b, a], n, h => by
    have n1 := List.nodup_cons.1 n
    exact tree_chk (tree_step (row4 x0 n1.2 fun v q => h v (List.mem_cons_of_mem _ q)) (h e (by simp)) n1.1)
  | f :: e :: d :: c :: b :: a :: l, n, h => by
    have k := len5 (f :: e :: d :: c :: b :: a :: l) n h
    simp at k
end Go.Proofs.YtkjdclpneaepkaaGreat.Rq
