/- Code without special regions: what is reckoned goes on in one way. -/
import Derived.Test.YtkjdclpneaepkaaGreatEv52
open Go
namespace Go.Ev
section
variable {P : Program} {c : CallF} {nt : Nat} {sp : Nat → Option SpF}
theorem evK_none : ∀ (x : Code), allR (fun id _ _ => sp id = none) x → evK P c nt sp x = evK P c nt (fun _ => none) x := by
  intro x
  induction x with
  | region id ops draw =>
    intro h
    have h : sp id = none := h
    show (fun tm hp nx k => Option.rec (motive := fun _ => Bool) (kReg k (evC (.reg (cR P nt draw ops)) c tm hp nx)) (fun F => F tm hp nx fun tm h nx => k (.nx tm h nx)) (sp id)) = _
    rw [h]; rfl
  | seq a b iha ihb =>
    intro h
    have h : allR (fun id _ _ => sp id = none) a ∧ allR (fun id _ _ => sp id = none) b := h
    show (fun tm hp nx k => evK P c nt sp a tm hp nx (kSeq (evK P c nt sp b) k)) = _
    rw [iha h.1, ihb h.2]; rfl
  | cond x a b iha ihb =>
    intro h
    have h : allR (fun id _ _ => sp id = none) a ∧ allR (fun id _ _ => sp id = none) b := h
    show kCond (xo x) (evK P c nt sp a) (evK P c nt sp b) = _
    rw [iha h.1, ihb h.2]; rfl
  | block id a ih => intro h; show (fun tm hp nx k => evK P c nt sp a tm hp nx (kBlk id k)) = _; rw [ih h]; rfl
  | loop a ih => intro h; show (fun tm hp nx k => kLoop (evK P c nt sp a) k 100000 tm hp nx) = _; rw [ih h]; rfl
  | _ => intro _; rfl
abbrev Det (f : T AV → Hp → Pa → (Rc → Bool) → Bool) : Prop := ∀ α h nx, (∃ r, ∀ K, f α h nx K = K r) ∨ ∀ K, f α h nx K = false
theorem kLoop_det {f : T AV → Hp → Pa → (Rc → Bool) → Bool} (hf : Det f) : ∀ (n : Nat) (α : T AV) (h : Hp) (nx : Pa), (∃ r, ∀ K, kLoop f K n α h nx = K r) ∨ ∀ K, kLoop f K n α h nx = false
  | 0, _, _, _ => .inr fun _ => rfl
  | n + 1, α, h, nx => by
    have e : ∀ K, kLoop f K (n + 1) α h nx = f α h nx (fun r => Rc.rec (motive := fun _ => Bool) (fun _ => false) (fun tm h nx => kLoop f K n tm h nx) (fun id tm h nx => K (.ex id tm h nx)) (fun tm h nx => K (.rt tm h nx)) r) := fun K => rfl
    rcases hf α h nx with ⟨r, hr⟩ | hr
    · cases r with
      | bad k => exact .inr fun K => by rw [e, hr]
      | nx tm hp nx =>
        rcases kLoop_det hf n tm hp nx with ⟨r, h2⟩ | h2
        · exact .inl ⟨r, fun K => by rw [e, hr]; exact h2 K⟩
        · exact .inr fun K => by rw [e, hr]; exact h2 K
      | ex id tm hp nx => exact .inl ⟨.ex id tm hp nx, fun K => by rw [e, hr]⟩
      | rt tm hp nx => exact .inl ⟨.rt tm hp nx, fun K => by rw [e, hr]⟩
    · exact .inr fun K => by rw [e, hr]
theorem evK_det : ∀ (x : Code), Det (evK P c nt (fun _ => none) x) := by
  intro x
  induction x with
  | skip => exact fun α h nx => .inl ⟨.nx α h nx, fun _ => rfl⟩
  | region id ops draw =>
    intro α h nx
    have e : ∀ K, evK P c nt (fun _ => none) (.region id ops draw) α h nx K = kReg K (evC (.reg (cR P nt draw ops)) c α h nx) := fun K => rfl
    cases q : evC (.reg (cR P nt draw ops)) c α h nx with
    | nx tm hp n => exact .inl ⟨.nx tm hp n, fun K => by rw [e, q]; rfl⟩
    | _ => exact .inr fun K => by rw [e, q]; rfl
  | seq a b iha ihb =>
    intro α h nx
    have e : ∀ K, evK P c nt (fun _ => none) (.seq a b) α h nx K = evK P c nt (fun _ => none) a α h nx (kSeq (evK P c nt (fun _ => none) b) K) := fun K => rfl
    rcases iha α h nx with ⟨r, hr⟩ | hr
    · cases r with
      | bad k => exact .inr fun K => by rw [e, hr]; rfl
      | nx tm hp n =>
        rcases ihb tm hp n with ⟨r, h2⟩ | h2
        · exact .inl ⟨r, fun K => by rw [e, hr]; exact h2 K⟩
        · exact .inr fun K => by rw [e, hr]; exact h2 K
      | ex id tm hp n => exact .inl ⟨.ex id tm hp n, fun K => by rw [e, hr]; rfl⟩
      | rt tm hp n => exact .inl ⟨.rt tm hp n, fun K => by rw [e, hr]; rfl⟩
    · exact .inr fun K => by rw [e, hr]
  | cond x a b iha ihb =>
    intro α h nx
    have e : ∀ K, evK P c nt (fun _ => none) (.cond x a b) α h nx K = kCond (xo x) (evK P c nt (fun _ => none) a) (evK P c nt (fun _ => none) b) α h nx K := fun K => rfl
    cases q : eX (xo x) α with
    | none => exact .inr fun K => by rw [e]; unfold kCond; rw [q]
    | some v =>
      cases v with
      | b t =>
        cases t with
        | true =>
          rcases iha α h nx with ⟨r, h2⟩ | h2
          · exact .inl ⟨r, fun K => by rw [e]; unfold kCond; rw [q]; exact h2 K⟩
          · exact .inr fun K => by rw [e]; unfold kCond; rw [q]; exact h2 K
        | false =>
          rcases ihb α h nx with ⟨r, h2⟩ | h2
          · exact .inl ⟨r, fun K => by rw [e]; unfold kCond; rw [q]; exact h2 K⟩
          · exact .inr fun K => by rw [e]; unfold kCond; rw [q]; exact h2 K
      | _ => exact .inr fun K => by rw [e]; unfold kCond; rw [q]
  | block id a ih =>
    intro α h nx
    have e : ∀ K, evK P c nt (fun _ => none) (.block id a) α h nx K = evK P c nt (fun _ => none) a α h nx (kBlk id K) := fun K => rfl
    rcases ih α h nx with ⟨r, hr⟩ | hr
    · cases r with
      | bad k => exact .inr fun K => by rw [e, hr]; rfl
      | nx tm hp n => exact .inl ⟨.nx tm hp n, fun K => by rw [e, hr]; rfl⟩
      | ex j tm hp n =>
        cases q : Nat.beq j id with
        | true => exact .inl ⟨.nx tm hp n, fun K => by rw [e, hr]; show (bif Nat.beq j id then _ else _) = _; rw [q]; rfl⟩
        | false => exact .inl ⟨.ex j tm hp n, fun K => by rw [e, hr]; show (bif Nat.beq j id then _ else _) = _; rw [q]; rfl⟩
      | rt tm hp n => exact .inl ⟨.rt tm hp n, fun K => by rw [e, hr]; rfl⟩
    · exact .inr fun K => by rw [e, hr]
  | loop a ih => exact fun α h nx => kLoop_det ih 100000 α h nx
  | exit id => exact fun α h nx => .inl ⟨.ex id α h nx, fun _ => rfl⟩
  | ret => exact fun α h nx => .inl ⟨.rt α h nx, fun _ => rfl⟩
  | _ => exact fun α h nx => .inr fun _ => rfl
/-- Two reckonings of one choice each are one of both: behind code without special regions. -/
theorem both_seq {s1 s2 s3 : Nat → Option SpF} {x y : Code} (h1 : allR (fun id _ _ => s1 id = none) x) (h2 : allR (fun id _ _ => s2 id = none) x) (h3 : allR (fun id _ _ => s3 id = none) x) {K : Rc → Bool}
    (ih : ∀ α h nx, evK P c nt s1 y α h nx K = true → evK P c nt s2 y α h nx K = true → evK P c nt s3 y α h nx K = true) :
    ∀ α h nx, evK P c nt s1 (.seq x y) α h nx K = true → evK P c nt s2 (.seq x y) α h nx K = true → evK P c nt s3 (.seq x y) α h nx K = true := by
  intro α h nx
  show evK P c nt s1 x α h nx (kSeq (evK P c nt s1 y) K) = true → evK P c nt s2 x α h nx (kSeq (evK P c nt s2 y) K) = true → evK P c nt s3 x α h nx (kSeq (evK P c nt s3 y) K) = true
  rw [evK_none x h1, evK_none x h2, evK_none x h3]
  rcases evK_det (P := P) (c := c) (nt := nt) x α h nx with ⟨r, hr⟩ | hr
  · rw [hr, hr, hr]
    cases r with
    | bad k => intro q; cases q
    | nx tm hp n => exact ih tm hp n
    | ex id tm hp n => exact fun q _ => q
    | rt tm hp n => exact fun q _ => q
  · rw [hr]; intro q; cases q
theorem seq_assoc {s : Nat → Option SpF} (a b y : Code) (α : T AV) (h : Hp) (nx : Pa) (K : Rc → Bool) : evK P c nt s (.seq (.seq a b) y) α h nx K = evK P c nt s (.seq a (.seq b y)) α h nx K := by
  show evK P c nt s a α h nx (kSeq (evK P c nt s b) (kSeq (evK P c nt s y) K)) = evK P c nt s a α h nx (kSeq (evK P c nt s (.seq b y)) K)
  rw [show kSeq (evK P c nt s b) (kSeq (evK P c nt s y) K) = kSeq (evK P c nt s (.seq b y)) K from funext fun r => by cases r <;> rfl]
theorem both_assoc {s1 s2 s3 : Nat → Option SpF} {a b y : Code} {K : Rc → Bool}
    (ih : ∀ α h nx, evK P c nt s1 (.seq a (.seq b y)) α h nx K = true → evK P c nt s2 (.seq a (.seq b y)) α h nx K = true → evK P c nt s3 (.seq a (.seq b y)) α h nx K = true) :
    ∀ α h nx, evK P c nt s1 (.seq (.seq a b) y) α h nx K = true → evK P c nt s2 (.seq (.seq a b) y) α h nx K = true → evK P c nt s3 (.seq (.seq a b) y) α h nx K = true := by
  intro α h nx
  rw [seq_assoc, seq_assoc, seq_assoc]
  exact ih α h nx
end
end Go.Ev
