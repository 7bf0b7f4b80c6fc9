/- The bag's New, Kinds, Len, At, Each, Count. -/
import Derived.Test.YtdbgplnjppaimaaGreatAddI
open Go Go.RowKit
namespace Go.Proofs.YtdbgplnjppaimaaGreat
def NewBagI (w : World) (g : Nat) (cb : Array Value) (e : Ending) (w' : World) : Prop :=
  ∃ b, e = .returned (.pointer (some ⟨b, 0, none⟩)) ∧ BagI w' b g cb (.slice none 0 0) [] ∧ Keep NoF w w' ∧ w.heap.size ≤ b
theorem equalInf {P : Program} (w : World) (d : Nat) (t : TypeId) (g : Nat) (cb : Array Value) {ps rs : Array TypeId} {v : Bool} (h : P.underlying t = some (.func ps rs v)) : (Op.equalIn (d + 1) t (.func (.func g) #[] cb) .nilFunc).run P w = .ok false w := by
  simp [Op.equalIn, run_underlying h]
theorem equalInn {P : Program} (w : World) (d : Nat) (t : TypeId) {ps rs : Array TypeId} {v : Bool} (h : P.underlying t = some (.func ps rs v)) : (Op.equalIn (d + 1) t .nilFunc .nilFunc).run P w = .ok true w := by
  simp [Op.equalIn, run_underlying h]
theorem eqfI (g : Nat) (cb : Array Value) (w : World) : (binOp .eql 110 (.func (.func g) #[] cb) Value.nilFunc).run Tryz.prog w = .ok (.bool false) w := by
  simp only [binOp]
  simp [Op.equal, Op.maxDepth, equalInf w 9999 110 g cb Tryz.underlying110]
theorem eqnI (w : World) : (binOp .eql 110 Value.nilFunc Value.nilFunc).run Tryz.prog w = .ok (.bool true) w := by
  simp only [binOp]
  simp [Op.equal, Op.maxDepth, equalInn w 9999 110 Tryz.underlying110]
set_option maxRecDepth 4000 in
theorem newI_any (g : Nat) (cb : Array Value) (w : World) : Calls Tryz.prog 56 #[.func (.func g) #[] cb] w (NewBagI w g cb) := by
  have HR := Lib.hid (heap_new w (.cells #[.func (.func g) #[] cb, .slice none 0 0] 113 (0, 0)))
  have HK := Lib.hid ((Keep.refl NoF w).alloc (.cells #[.func (.func g) #[] cb, .slice none 0 0] 113 (0, 0)))
  have hf := eqfI g cb w
  go_enter Tryz.func56, Tryz.ntmps56
  go_wp2_with fail
  go_ret
  exact ⟨_, rfl, ⟨HR.out, World.ownsRow_nil _ _ _ _, nofun⟩, HK.out, Nat.le_refl _⟩
set_option maxRecDepth 4000 in
theorem newI_nil (w : World) : Calls Tryz.prog 56 #[Value.nilFunc] w fun e w' => e = .returned (.pointer none) ∧ w' = w := by
  have hf := eqnI w
  go_enter Tryz.func56, Tryz.ntmps56
  go_wp2_with fail
  go_ret
  exact ⟨rfl, rfl⟩
def sumI (l : List (Int × Int)) : Int := (l.map (·.2)).sum
theorem sumI_bounds : ∀ (l : List (Int × Int)), (∀ p ∈ l, 0 ≤ p.2 ∧ p.2 ≤ 1000000) → 0 ≤ sumI l ∧ sumI l ≤ 1000000 * l.length
  | [], _ => by simp [sumI]
  | p :: l, h => by
    have h1 := h p (by simp)
    have h2 := sumI_bounds l (fun q hq => h q (List.mem_cons_of_mem _ hq))
    simp [sumI] at h2 ⊢
    omega
theorem sumI_snoc (l : List (Int × Int)) (k : Nat) (hk : k < l.length) : sumI (l.take (k + 1)) = sumI (l.take k) + l[k].2 := by
  unfold sumI
  rw [List.take_succ_eq_append_getElem hk, List.map_append, List.sum_append]
  simp
def expI (l : List (Int × Int)) : List Int := l.flatMap fun p => List.replicate p.2.toNat p.1
def atI (l : List (Int × Int)) (i : Int) : Option Int := if i < 0 then none else (expI l)[i.toNat]?
theorem expI_drop (l : List (Int × Int)) (k : Nat) (hk : k < l.length) : expI (l.drop k) = List.replicate l[k].2.toNat l[k].1 ++ expI (l.drop (k + 1)) := by
  rw [List.drop_eq_getElem_cons hk]; rfl
def fstI (l : List (Int × Int)) : List Int := l.map (·.1)
theorem fstI_append (l m : List (Int × Int)) : fstI (l ++ m) = fstI l ++ fstI m := List.map_append
theorem infoEI : (Tryz.prog.info? 3).map (fun i => (i.zero, i.size, i.bytes)) = some (some (.int .i64 0), 1, 8) := by kernel_rfl
end Go.Proofs.YtdbgplnjppaimaaGreat
