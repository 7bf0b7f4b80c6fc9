/- The rest of a law's code, reckoned with choices. -/
import Derived.Test.YtkjdclpneaepkaaGreatEv51
import Derived.Test.YtkjdclpneaepkaaGreatEv52
open Go Go.Ev
namespace Go.Ev
section
variable {p : Nat → Array Oper → Bool → Prop}
theorem allR_seq (a b : Code) : allR p (.seq a b) = (allR p a ∧ allR p b) := rfl
theorem allR_cond (x : Operand) (a b : Code) : allR p (.cond x a b) = (allR p a ∧ allR p b) := rfl
theorem allR_block (i : Nat) (a : Code) : allR p (.block i a) = allR p a := rfl
theorem allR_loop (a : Code) : allR p (.loop a) = allR p a := rfl
theorem allR_region (i : Nat) (o : Array Oper) (d : Bool) : allR p (.region i o d) = p i o d := rfl
theorem allR_skip : allR p .skip = True := rfl
theorem allR_ret : allR p .ret = True := rfl
theorem allR_exit (i : Nat) : allR p (.exit i) = True := rfl
end
end Go.Ev
namespace Go.Proofs.YtkjdclpneaepkaaGreat
open Go.Proofs
noncomputable def finK (fn : Func) (r : Rc) : Bool := okT (fin (cRes Tryz.prog fn.results.toList) r)
theorem kout_post {fn : Func} {a a' : Act} {w0 w w' : World} {x : Exit} (K1 : Keep NoF w0 w) (hdf : a.defers = []) (ho : okRes Tryz.prog fn.results.toList = true) (q : KOut (finK fn) (fun _ => none) .lf a w x a' w') : bodyPost Tryz.prog fn (fun x w' => x = .returned (.bool true) ∧ Keep NoF w0 w') x a' w' :=
  let ⟨_, h1, h2⟩ := q; out_post K1 hdf ho h2 h1
theorem restK_seq {fn : Func} {A B : Code} {K : Act → World → Prop} {a : Act} {w0 w : World} {sp : Nat → Option SpF} (hA : allR (fun id ops d => ∀ F, sp id = some F → SpOk Tryz.prog (fun _ _ _ => True) fn.ntmps F id ops d) (.seq A B))
    (hK : ∀ a w, Code.wp Tryz.prog B (bodyPost Tryz.prog fn fun x w' => x = .returned (.bool true) ∧ Keep NoF w0 w') a w → K a w)
    (K1 : Keep NoF w0 w) (α : T AV) (hnt : fn.ntmps ≤ a.tmps.size) (hdf : a.defers = []) (hT : TR (fun _ => none) α a.tmps) (ho : okRes Tryz.prog fn.results.toList = true) (e : evK Tryz.prog cL fn.ntmps sp (.seq A B) α .lf .e (finK fn) = true) :
    Code.wp Tryz.prog A (Exit.then K (bodyPost Tryz.prog fn fun x w' => x = .returned (.bool true) ∧ Keep NoF w0 w')) a w := by
  rw [allR_seq] at hA
  have e : evK Tryz.prog cL fn.ntmps sp A α .lf .e (kSeq (evK Tryz.prog cL fn.ntmps sp B) (finK fn)) = true := e
  refine wp_mono (evK_ok (Inv := fun _ _ _ => True) mixed okCL (fun _ _ => trivial) A hA.1 _ (H00 w) hT hnt trivial e) fun x a1 w1 q => ?_
  have q := kthen (K := finK fn) (K' := kSeq (evK Tryz.prog cL fn.ntmps sp B) (finK fn)) (N := K) (fun α1 h1 n1 ρ1 a1 w1 q g => hK _ _ (wp_mono (evK_ok (Inv := fun _ _ _ => True) mixed okCL (fun _ _ => trivial) B hA.2 (finK fn) g.hr g.tr (by rw [g.sz]; exact hnt) trivial q) fun x a' w' q2 => kout_post K1 hdf ho (KOut.shift g _ _ _ q2)))
    (fun id α' h' nx' q => q) (fun α' h' nx' q => q) x a1 w1 q
  cases x with
  | normal => exact q
  | ret => exact kout_post (x := .ret) K1 hdf ho q
  | exit id => exact kout_post (x := .exit id) K1 hdf ho q
  | goto l => exact kout_post (x := .goto l) K1 hdf ho q
  | panic ch => exact kout_post (x := .panic ch) K1 hdf ho q
  | outgrown => exact kout_post (x := .outgrown) K1 hdf ho q
/-- An operation that gives a value and changes nothing. -/
theorem wpl_val {ops : Array Oper} {rest : List Oper} {o : Oper} {a : Act} {Q : Exit → Act → World → Prop} {w : World} {v : Value} (hg : o.guard = none) (hr : (execOp a.eval o).run Tryz.prog w = .ok (.value v) w) (h : wpList Tryz.prog ops Q rest (a.put o.dst v) w) : wpList Tryz.prog ops Q (o :: rest) a w :=
  wpList_plain hg fun _ hK => Yld.wp (.inl hr) (hK _ _ h)
end Go.Proofs.YtkjdclpneaepkaaGreat
