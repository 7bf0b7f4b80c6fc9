/- Packets compared. -/
import Derived.Test.YtlabhbjampkhpaaGreatPack
import Derived.Laws.StructEq
open Go Go.RowKit
namespace Go.Proofs.YtlabhbjampkhpaaGreat
def eqP (p q : PackV) : Bool := decide (p.kind = q.kind) && (decide (p.from_ = q.from_) && (decide (p.to = q.to) && (decide (p.tid = q.tid) && (decide (p.n = q.n) && decide (p.yes = q.yes)))))
theorem eqP_iff (p q : PackV) : eqP p q = true ↔ p = q := by
  obtain ⟨a0, a1, a2, a3, a4, a5⟩ := p
  obtain ⟨b0, b1, b2, b3, b4, b5⟩ := q
  simp [eqP]
theorem eqP_self (p : PackV) : eqP p p = true := (eqP_iff p p).2 rfl
theorem eqP_ne {p q : PackV} (h : p ≠ q) : eqP p q = false := by
  rw [Bool.eq_false_iff]; exact fun e => h ((eqP_iff p q).1 e)
theorem eqPk_in (p q : PackV) (w : World) : (Op.equalIn 10000 23 (packVal p) (packVal q)).run Tryz.prog w = .ok (eqP p q) w := by
  obtain ⟨a0, a1, a2, a3, a4, a5⟩ := p
  obtain ⟨b0, b1, b2, b3, b4, b5⟩ := q
  unfold packVal
  rw [run_equalIn_struct w 9999 23 _ _ (by kernel_rfl) (by kernel_rfl)]
  go_simp
  unfold eqP
  dsimp only
  by_cases h0 : a0 = b0
  · by_cases h1 : a1 = b1
    · by_cases h2 : a2 = b2
      · by_cases h3 : a3 = b3
        · by_cases h4 : a4 = b4
          · by_cases h5 : a5 = b5
            · simp [h0, h1, h2, h3, h4, h5]
            · simp [h0, h1, h2, h3, h4, h5]
          · simp [h0, h1, h2, h3, h4]
        · simp [h0, h1, h2, h3]
      · simp [h0, h1, h2]
    · simp [h0, h1]
  · simp [h0]
theorem eqPk (p q : PackV) (w : World) : (binOp .eql 23 (packVal p) (packVal q)).run Tryz.prog w = .ok (.bool (eqP p q)) w := by
  unfold packVal
  rw [run_eql_struct]
  have h := eqPk_in p q w
  unfold packVal at h
  rw [h]; rfl
theorem nePk (p q : PackV) (w : World) : (binOp .neq 23 (packVal p) (packVal q)).run Tryz.prog w = .ok (.bool (!eqP p q)) w := by
  unfold packVal
  rw [run_neq_struct]
  have h := eqPk_in p q w
  unfold packVal at h
  rw [h]; rfl
end Go.Proofs.YtlabhbjampkhpaaGreat
