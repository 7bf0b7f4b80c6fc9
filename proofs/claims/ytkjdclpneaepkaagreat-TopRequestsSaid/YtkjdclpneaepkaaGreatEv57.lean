/- Laws over a list of truths: the rest of the law at a seam of its walk. -/
import Derived.Test.YtkjdclpneaepkaaGreatEv65
import Derived.Test.YtkjdclpneaepkaaGreatEv56
import Derived.Deep.Slices
import Derived.Deep.Strs
import Derived.WideShapes
import Derived.OpenShut
set_option linter.unusedVariables false
open Go Go.Ev Go.Ev.Ch Go.RowKit
namespace Go.Proofs.YtkjdclpneaepkaaGreat.Bo
open Go.Proofs
noncomputable def finC (fn : Func) (_ : List Bool) (r : Rc) : Bool := okT (fin (cRes Tryz.prog fn.results.toList) r)
theorem koutC {fn : Func} {Inv : List Bool → Ren → T AV → Hp → World → Prop} {ρ0 : Ren} {a a' : Act} {w0 w w' : World} {x : Exit} (K1 : Keep NoF w0 w) (hdf : a.defers = []) (ho : okRes Tryz.prog fn.results.toList = true) (q : KOut Inv (finC fn) ρ0 .lf a w x a' w') :
    bodyPost Tryz.prog fn (fun x w' => x = .returned (.bool true) ∧ Keep NoF w0 w') x a' w' := by
  cases x with
  | normal => obtain ⟨s, α', h', nx', ρ', h1, -, g⟩ := q; exact outD_post (x := .normal) (ρ0 := ρ0) K1 hdf ho ⟨α', h', nx', ρ', rfl, g⟩ h1
  | ret => obtain ⟨s, α', h', nx', ρ', h1, -, g⟩ := q; exact outD_post (x := .ret) (ρ0 := ρ0) K1 hdf ho ⟨α', h', nx', ρ', rfl, g⟩ h1
  | exit id => obtain ⟨s, α', h', nx', ρ', h1, -, g⟩ := q; cases h1
  | goto l => exact q.elim
  | panic ch => exact q.elim
  | outgrown => exact q.elim
noncomputable def ren (g : Nat) : Ren := fun id => bif eqPa id Pa.e then some (g, 0) else none
theorem ren_e (g : Nat) : ren g Pa.e = some (g, 0) := by unfold ren; rw [eqPa_refl]; rfl
theorem ren_id {g : Nat} {id : Pa} {q : Nat × Nat} (h : ren g id = some q) : id = Pa.e := by
  unfold ren at h
  cases e : eqPa id Pa.e with
  | true => exact eqPa_eq _ _ e
  | false => rw [e] at h; cases h
theorem ren_HR (g : Nat) (w : World) : HR (ren g) .lf (Pa.succ Pa.e) w :=
  ⟨fun id p q => (by rw [ren_id q]; decide), fun id b q => (by rw [getP_lf] at q; cases q), fun id id' b b' g t t' q => (by rw [getP_lf] at q; cases q)⟩
noncomputable def α0 (off n cap : Nat) : T AV := setP (some (.sl Pa.e off n cap)) (path 0) .lf
noncomputable def runC (fn : Func) (sp : Nat → Option (SpF (List Bool))) (b : Code) (α : T AV) : Bool := evK Tryz.prog cX fn.ntmps sp b [] α .lf (Pa.succ Pa.e) (finC fn)
/-- The rest of a law's code, what the list holds being chosen. -/
theorem rest_C {fn : Func} {A B : Code} {K : Act → World → Prop} {a : Act} {w0 w : World} {sp : Nat → Option (SpF (List Bool))} {Ag : Arg} {p : List Bool} {ex : Bool} (hz : keeps0 (P := Tryz.prog) (nt := fn.ntmps) sp (.seq A B) = true)
    (hA : allR (fun id ops d => ∀ F, sp id = some F → SpOk Tryz.prog (Inv Ag p ex) fn.ntmps F id ops d) (.seq A B)) (hK : ∀ a w, Code.wp Tryz.prog B (bodyPost Tryz.prog fn fun x w' => x = .returned (.bool true) ∧ Keep NoF w0 w') a w → K a w)
    (K1 : Keep NoF w0 w) (hlt : Ag.g < w.heap.size) (hc : ∀ i (hi : i < Ag.l.length), w.cell? ⟨Ag.g, Ag.off + i, none⟩ = some (.bool Ag.l[i])) (hp : p <+: Ag.l) (hex : ex = true → p.length = Ag.l.length)
    (α : T AV) (hα : getP (path 0) α = some (.sl Pa.e Ag.off Ag.l.length Ag.cap)) (hnt : fn.ntmps ≤ a.tmps.size) (hdf : a.defers = []) (hT : TR (ren Ag.g) α a.tmps) (ho : okRes Tryz.prog fn.results.toList = true) (e : runC fn sp (.seq A B) α = true) :
    Code.wp Tryz.prog A (Exit.then K (bodyPost Tryz.prog fn fun x w' => x = .returned (.bool true) ∧ Keep NoF w0 w')) a w := by
  rw [allR_seq] at hA
  obtain ⟨hz1, hz2⟩ := and_ok (show (keeps0 (P := Tryz.prog) (nt := fn.ntmps) sp A && keeps0 (P := Tryz.prog) (nt := fn.ntmps) sp B) = true from hz)
  have hv : Inv Ag p ex [] (ren Ag.g) α .lf w := ⟨hα, ren_e _, hlt, fun ⟨id, b, t, q, _⟩ => (by rw [getP_lf] at q; cases q), hc, List.nil_prefix, hp, hex⟩
  have hI : ∀ {s ρ α h a w ρ' α' h' nx' a' w'}, Inv Ag p ex s ρ α h w → getP (path 0) α' = getP (path 0) α → Go.Ev.Good ρ h a w ρ' α' h' nx' a' w' → Inv Ag p ex s ρ' α' h' w' := fun v e g => v.step e g
  have e : evK Tryz.prog cX fn.ntmps sp A [] α .lf (Pa.succ Pa.e) (kSeq (evK Tryz.prog cX fn.ntmps sp B) (finC fn)) = true := e
  refine wp_mono (evK_ok (Inv := Inv Ag p ex) mixed okCX hI A hz1 hA.1 _ (ren_HR _ _) hT hnt hv e) fun x a1 w1 q => ?_
  have q := kthen (K := finC fn) (K' := kSeq (evK Tryz.prog cX fn.ntmps sp B) (finC fn)) (N := K) (fun s α1 h1 n1 ρ1 a1 w1 q hv' g => hK _ _ (wp_mono (evK_ok (Inv := Inv Ag p ex) mixed okCX hI B hz2 hA.2 (finC fn) g.hr g.tr (by rw [g.sz]; exact hnt) hv' q) fun x a' w' q2 => koutC K1 hdf ho (KOut.shift g _ _ _ q2)))
    (fun s id α' h' nx' q => q) (fun s α' h' nx' q => q) x a1 w1 q
  cases x with
  | normal => exact q
  | ret => exact koutC (x := .ret) K1 hdf ho q
  | exit id => exact koutC (x := .exit id) K1 hdf ho q
  | goto l => exact (show False from q).elim
  | panic ch => exact (show False from q).elim
  | outgrown => exact (show False from q).elim

/-! ### the argument as it comes in -/
/-- A slice of truths: none, empty, or in a block. -/
inductive IsBo (w : World) : Option Addr → Nat → Nat → List Bool → Prop where
  | nil : IsBo w none 0 0 []
  | emp (x : Addr) (c : Nat) : IsBo w (some x) 0 c []
  | row (g off c : Nat) (l : List Bool) (hl : 0 < l.length) (lt : g < w.heap.size) (hc : ∀ i (hi : i < l.length), w.cell? ⟨g, off + i, none⟩ = some (.bool l[i])) : IsBo w (some ⟨g, off, none⟩) l.length c l
theorem plain_addr {w : World} {x : Addr} {v : Value} (h : w.cell? (x.add 0) = some v) : x = ⟨x.block, x.off, none⟩ := by
  obtain ⟨b, o, sp⟩ := x
  cases sp with
  | none => rfl
  | some s =>
    simp only [Addr.add, if_true, World.cell?] at h
    split at h
    · simp at h
    · cases h
theorem addr_plain {x : Addr} (hx : x = ⟨x.block, x.off, none⟩) (i : Nat) : x.add i = ⟨x.block, x.off + i, none⟩ := by
  rw [hx]
  by_cases hi0 : i = 0
  · subst hi0; simp [Addr.add]
  · simp [Addr.add, hi0]
theorem lt_of_cell {w : World} {g o : Nat} {v : Value} (h : w.cell? ⟨g, o, none⟩ = some v) : g < w.heap.size := by
  simp only [World.cell?] at h
  rcases Nat.lt_or_ge g w.heap.size with q | q
  · exact q
  · rw [Array.getElem?_eq_none q] at h; simp at h
theorem open_bo {H : Type} {enc : TypeId × Value → H} {W : World} {a : Option Addr} {len cap : Nat} {d : DataW H} {p : List MemPlace}
    (h : DataW.Trod enc Tryz.prog W 0 (fun _ => true) true 22 (.slice a len cap) d p) : ∃ l : List Bool, IsBo W a len cap l := by
  obtain ⟨n, h⟩ := h
  rcases Deep.open_slice1 Tryz.underlying22 (by kernel_rfl) h with ⟨hcs, _⟩ | ⟨x, l', c', m, k, V, D, Pl, hcs, _, hl, hm, hmm, _, hx⟩
  · simp [Value.cells] at hcs
    obtain ⟨rfl, rfl, rfl⟩ := hcs
    exact ⟨[], .nil⟩
  · simp [Value.cells] at hcs
    obtain ⟨rfl, rfl, rfl⟩ := hcs
    simp only [if_true] at hmm
    subst hmm
    obtain ⟨z, hz⟩ := Deep.choose_lt (α := Bool) (n := len) (p := fun i y => W.cell? (x.add i) = some (.bool y)) (fun i hi => by
      obtain ⟨h1, h2⟩ := hx i (by omega)
      obtain ⟨n0, e0, _⟩ := DataW.trod_bool Tryz.underlying4 h2
      simp at e0
      rw [e0] at h1
      exact ⟨n0, h1⟩)
    rcases Nat.eq_zero_or_pos len with h0 | h0
    · subst h0; exact ⟨[], .emp x _⟩
    · have hpl := plain_addr (hz 0 h0)
      have hlt := hz 0 h0
      rw [addr_plain hpl] at hlt
      have := IsBo.row x.block x.off m ((List.range len).map z) (by simpa using h0) (lt_of_cell hlt) (fun i hi => by
        simp at hi
        rw [← addr_plain hpl, hz i hi]
        simp)
      rw [List.length_map, List.length_range] at this
      refine ⟨(List.range len).map z, ?_⟩
      rw [hpl]; exact this
/-! ### all rows of a length -/
noncomputable def allL (k : Nat) (f : List Bool → Bool) : List Bool → Bool := Nat.rec (motive := fun _ => List Bool → Bool) f (fun _ ih p => Bool.rec (motive := fun _ => Bool) false (ih (p ++ [true])) (ih (p ++ [false]))) k
theorem allL_ok {f : List Bool → Bool} : ∀ (k : Nat) (p : List Bool), allL k f p = true → ∀ q : List Bool, q.length = k → f (p ++ q) = true
  | 0, p, h, q, hq => by
    rw [List.eq_nil_of_length_eq_zero hq, List.append_nil]; exact h
  | k + 1, p, h, q, hq => by
    have h : (Bool.rec false (allL k f (p ++ [true])) (allL k f (p ++ [false])) : Bool) = true := h
    cases e : allL k f (p ++ [false]) with
    | false => rw [e] at h; cases h
    | true =>
      rw [e] at h
      cases q with
      | nil => cases hq
      | cons x q =>
        have hq2 : q.length = k := by simpa using hq
        have := fun y => allL_ok (f := f) k (p ++ [y])
        rw [show p ++ x :: q = p ++ [x] ++ q by simp]
        cases x with
        | false => exact this false e q hq2
        | true => exact this true h q hq2
/-- All rows of a .. b truths. -/
noncomputable def allP (a b : Nat) (f : List Bool → Bool) : Bool := Nat.rec (motive := fun _ => Bool) true (fun i ih => Bool.rec (motive := fun _ => Bool) false ih (allL (Nat.add a i) f [])) (Nat.succ (Nat.sub b a))
theorem allP_ok {f : List Bool → Bool} {a b : Nat} (h : allP a b f = true) (p : List Bool) (h1 : a ≤ p.length) (h2 : p.length ≤ b) : f p = true := by
  have key : ∀ n, (Nat.rec (motive := fun _ => Bool) true (fun i ih => Bool.rec (motive := fun _ => Bool) false ih (allL (Nat.add a i) f [])) n : Bool) = true → ∀ i, i < n → allL (a + i) f [] = true := by
    intro n
    induction n with
    | zero => intro _ i hi; omega
    | succ n ih =>
      intro h i hi
      have h : (Bool.rec false (Nat.rec (motive := fun _ => Bool) true (fun i ih => Bool.rec (motive := fun _ => Bool) false ih (allL (Nat.add a i) f [])) n) (allL (a + n) f []) : Bool) = true := h
      cases e : allL (a + n) f [] with
      | false => rw [e] at h; cases h
      | true =>
        rw [e] at h
        rcases Nat.lt_succ_iff_lt_or_eq.1 hi with k | k
        · exact ih h i k
        · rw [k]; exact e
  have := key _ h (p.length - a) (by show _ < (b - a) + 1; omega)
  rw [show a + (p.length - a) = p.length by omega] at this
  simpa using allL_ok _ [] this p rfl
end Go.Proofs.YtkjdclpneaepkaaGreat.Bo
