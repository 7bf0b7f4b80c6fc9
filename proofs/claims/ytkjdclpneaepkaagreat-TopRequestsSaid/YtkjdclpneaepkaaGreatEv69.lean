/- Laws over a list of truths, memory cleared at each round. -/
import Derived.Test.YtkjdclpneaepkaaGreatEv57
import Derived.Test.YtkjdclpneaepkaaGreatEv59
set_option linter.unusedVariables false
open Go Go.Ev Go.RowKit
namespace Go.Proofs.YtkjdclpneaepkaaGreat.Bo
open Go.Proofs
open Go.Ev.Ch (SpF evK kSeq keeps0 allR allR_seq)
noncomputable def FtestG (ks : List Nat) (p : List Bool) (ex : Bool) (b ib K : Nat) : SpF (List Bool) := fun σ α h nx k => Cg.gcK ks α h fun α' h' nx' => Ftest p ex b ib K σ α' h' nx' k
theorem FtestG_ok {A : Arg} {p : List Bool} {ex : Bool} {nt : Nat} {ks : List Nat} {b ib K id : Nat} {ops : Array Oper} {d : Bool} (h0 : 0 ∈ ks) (ht : Ch.SpOk Tryz.prog (Inv A p ex) nt (Ftest p ex b ib K) id ops d) : Cg.SpOk Tryz.prog (Inv A p ex) nt (FtestG ks p ex b ib K) id ops d := by
  intro σ ρ α a w h nx k H hT hnt hv hF
  obtain ⟨α', h', N, e, s1, s2⟩ := Cg.gcK_ok hF
  obtain ⟨H', T', S'⟩ := s2 H hT
  have hv' : Inv A p ex σ (Cg.cut (N + 1) ρ) α' h' w := ⟨s1 0 _ h0 hv.slot, (Cg.cut_lt (show Cg.okI (N + 1) Pa.e = true from Nat.ble_eq_true_of_le (Nat.succ_le_succ (Nat.zero_le _)))).trans hv.nm, hv.lt, fun o => (S'.own _ o).elim hv.own (fun q => absurd hv.lt (by omega)), hv.cell, hv.pre, hv.plan, hv.exact⟩
  refine wp_mono (ht k H' T' hnt hv' e) fun x a' w' ⟨hx, s', α'', h'', nx'', ρ'', k1, k2, g⟩ => ⟨hx, s', α'', h'', nx'', ρ'', k1, k2, ?_⟩
  exact ⟨g.tr, g.hr, S'.trans (.of g.st), g.sz, g.df⟩
theorem koutG {fn : Func} {Inv : List Bool → Ren → T AV → Hp → World → Prop} {ρ0 : Ren} {a a' : Act} {w0 w w' : World} {x : Exit} (K1 : Keep NoF w0 w) (hdf : a.defers = []) (ho : okRes Tryz.prog fn.results.toList = true) (q : Cg.KOut Inv (finC fn) ρ0 .lf a w x a' w') :
    bodyPost Tryz.prog fn (fun x w' => x = .returned (.bool true) ∧ Keep NoF w0 w') x a' w' := by
  have fine : ∀ {α' : T AV} {h1 : Hp} {n1 : Pa} {ρ' : Ren}, Cg.Good ρ0 .lf a w ρ' α' h1 n1 a' w' → okT (Option.casesOn (outV (cRes Tryz.prog fn.results.toList) α' h1) (.bad 71) fun v => .ok v h1 n1 : Rv) = true →
      a'.defers = [] ∧ ∃ v, (results fn a'.tmps).run Tryz.prog w' = .ok v w' ∧ Ending.returned v = .returned (.bool true) ∧ Keep NoF w0 w' := fun {α' h1 n1 ρ'} g e => by
    cases e1 : outV (cRes Tryz.prog fn.results.toList) α' h1 with
    | none => rw [e1] at e; cases e
    | some v =>
      rw [e1] at e
      obtain ⟨u, h4, h5⟩ := results_ok g.hr g.tr ho e1
      have hk : Keep NoF w w' := ⟨g.st.os, g.st.tape, g.st.output, g.st.size, fun k hk _ => g.st.keep k hk fun ⟨id, b, t, q, _⟩ => by rw [getP_lf] at q; cases q⟩
      refine ⟨g.df.trans hdf, u, h5, ?_, K1.trans' hk⟩
      cases v <;> first
        | (cases (show _ = true from e); rw [show u = _ from h4])
        | cases e
  cases x with
  | normal => obtain ⟨s, α', h', nx', ρ', h1, -, g⟩ := q; exact fine g h1
  | ret => obtain ⟨s, α', h', nx', ρ', h1, -, g⟩ := q; exact fine g h1
  | exit id => obtain ⟨s, α', h', nx', ρ', h1, -, g⟩ := q; cases h1
  | goto l => exact q.elim
  | panic ch => exact q.elim
  | outgrown => exact q.elim
/-- The rest of a law's code, what the list holds being chosen, memory cleared between. -/
theorem rest_G {fn : Func} {A B : Code} {K : Act → World → Prop} {a : Act} {w0 w : World} {sp : Nat → Option (SpF (List Bool))} {Ag : Arg} {p : List Bool} {ex : Bool} (hz : keeps0 (P := Tryz.prog) (nt := fn.ntmps) sp (.seq A B) = true)
    (hA : allR (fun id ops d => ∀ F, sp id = some F → Cg.SpOk Tryz.prog (Inv Ag p ex) fn.ntmps F id ops d) (.seq A B)) (hK : ∀ a w, Code.wp Tryz.prog B (bodyPost Tryz.prog fn fun x w' => x = .returned (.bool true) ∧ Keep NoF w0 w') a w → K a w)
    (K1 : Keep NoF w0 w) (hlt : Ag.g < w.heap.size) (hc : ∀ i (hi : i < Ag.l.length), w.cell? ⟨Ag.g, Ag.off + i, none⟩ = some (.bool Ag.l[i])) (hp : p <+: Ag.l) (hex : ex = true → p.length = Ag.l.length)
    (α : T AV) (hα : getP (path 0) α = some (.sl Pa.e Ag.off Ag.l.length Ag.cap)) (hnt : fn.ntmps ≤ a.tmps.size) (hdf : a.defers = []) (hT : TR (ren Ag.g) α a.tmps) (ho : okRes Tryz.prog fn.results.toList = true) (e : runC fn sp (.seq A B) α = true) :
    Code.wp Tryz.prog A (Exit.then K (bodyPost Tryz.prog fn fun x w' => x = .returned (.bool true) ∧ Keep NoF w0 w')) a w := by
  rw [allR_seq] at hA
  obtain ⟨hz1, hz2⟩ := and_ok (show (keeps0 (P := Tryz.prog) (nt := fn.ntmps) sp A && keeps0 (P := Tryz.prog) (nt := fn.ntmps) sp B) = true from hz)
  have hv : Inv Ag p ex [] (ren Ag.g) α .lf w := ⟨hα, ren_e _, hlt, fun ⟨id, b, t, q, _⟩ => (by rw [getP_lf] at q; cases q), hc, List.nil_prefix, hp, hex⟩
  have hI : ∀ {s ρ α h a w ρ' α' h' nx' a' w'}, Inv Ag p ex s ρ α h w → getP (path 0) α' = getP (path 0) α → Go.Ev.Good ρ h a w ρ' α' h' nx' a' w' → Inv Ag p ex s ρ' α' h' w' := fun v e g => v.step e g
  have e : evK Tryz.prog cX fn.ntmps sp A [] α .lf (Pa.succ Pa.e) (kSeq (evK Tryz.prog cX fn.ntmps sp B) (finC fn)) = true := e
  refine wp_mono (Cg.evK_ok (Inv := Inv Ag p ex) mixed okCX hI A hz1 hA.1 _ (ren_HR _ _) hT hnt hv e) fun x a1 w1 q => ?_
  have q := Cg.kthen (K := finC fn) (K' := kSeq (evK Tryz.prog cX fn.ntmps sp B) (finC fn)) (N := K) (fun s α1 h1 n1 ρ1 a1 w1 q hv' g => hK _ _ (wp_mono (Cg.evK_ok (Inv := Inv Ag p ex) mixed okCX hI B hz2 hA.2 (finC fn) g.hr g.tr (by rw [g.sz]; exact hnt) hv' q) fun x a' w' q2 => koutG K1 hdf ho (Cg.KOut.shift g _ _ _ q2)))
    (fun s id α' h' nx' q => q) (fun s α' h' nx' q => q) x a1 w1 q
  cases x with
  | normal => exact q
  | ret => exact koutG (x := .ret) K1 hdf ho q
  | exit id => exact koutG (x := .exit id) K1 hdf ho q
  | goto l => exact (show False from q).elim
  | panic ch => exact (show False from q).elim
  | outgrown => exact (show False from q).elim
end Go.Proofs.YtkjdclpneaepkaaGreat.Bo
