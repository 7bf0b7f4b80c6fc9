/- TopQueues: the states that rounds leave, reckoned; the names are not known. -/
import Derived.Test.YtkjdclpneaepkaaGreatEv94
set_option linter.unusedVariables false
open Go Go.Ev Go.Proofs Go.RowKit
namespace Go.Proofs.YtkjdclpneaepkaaGreat.Qu
noncomputable section
abbrev KS := AV → List Pa → Hp → Pa → Bool
def rvB (r : Rv) (k : AV → Hp → Pa → Bool) : Bool := Rv.rec (motive := fun _ => Bool) (fun _ => false) k r
def ifV (b x : Bool) : Bool := Bool.rec (motive := fun _ => Bool) false x b
def isB (v : AV) (r x : Bool) : Bool := match v with | .b y => Bool.rec (motive := fun _ => Bool) (Bool.rec (motive := fun _ => Bool) x false r) (Bool.rec (motive := fun _ => Bool) false x r) y | _ => false
def ids2 (r : Bool) (ids : List Pa) (id : Pa) : List Pa := Bool.rec (motive := fun _ => List Pa) ids (ids ++ [id]) r
/-- The text of a number, laid into a block of its own, to be read. -/
def txt (i : Nat) : Blk := .ce (setP (some (.s [Nat.add 48 i])) (path 0) .lf) 1 false false
def fArgs (a : AV) (ids : List Pa) (r : Bool) (nx : Pa) : AV := .cn a (.cn (.i .i64 (.ofNat 1)) (.cn (.y nx ids r) (.cn (.sl nx.succ 0 1 1) .nl)))
/-- One round: the message i, in a queue that is not known, of which it is told whether there is room. -/
def G (i : Nat) (r : Bool) (a : AV) (ids : List Pa) (h : Hp) (nx : Pa) (k : KS) : Bool :=
  rvB (cQ 24 (fArgs a ids r nx) (setP (some (txt i)) nx.succ h) nx.succ.succ) fun v h2 n2 => isB v r (k a (ids2 r ids nx) h2 n2)
def S0 (k : KS) : Bool := rvB (cQ 15 (.cn (.i .i64 (.ofNat 1)) .nl) .lf Pa.e) fun a h nx => k a [] h nx
/-- The rounds σ, the last one first: was there room? -/
def S (σ : List Bool) : KS → Bool := List.rec (motive := fun _ => KS → Bool) S0 (fun r σ ih k => ih fun a ids h nx => G (lenL σ) r a ids h nx k) σ
/-- Which messages came in. -/
def ins (σ : List Bool) : List Nat := List.rec (motive := fun _ => List Nat) [] (fun r σ ih => Bool.rec (motive := fun _ => List Nat) ih (ih ++ [lenL σ]) r) σ
def isI (v : AV) : Bool := match v with | .i .i64 _ => true | _ => false
def isSl (v : AV) : Bool := match v with | .ns => true | .se => true | .sl .. => true | .so .. => true | _ => false
/-- The messages, as they stand in memory. -/
def msK (l : List Nat) : List Pa → AV → Bool := List.rec (motive := fun _ => List Pa → AV → Bool) (fun ids c => match ids, c with | [], .nl => true | _, _ => false)
  (fun i _ ih ids c => match ids, c with
    | id :: ids, .cn x0 (.cn (.y id' _ _) (.cn (.s b) (.cn x3 (.cn (.i .i64 (.ofNat 0)) (.cn (.i .i64 (.ofNat 0)) c))))) => ifV (isI x0 && isI x3) (ifV (eqPa id id') (ifV (eqS b [Nat.add 48 i]) (ih ids c)))
    | _, _ => false) l
def msV (l : List Nat) (ids : List Pa) (s : AV) (h : Hp) : Bool := match s with
  | .ag (.cn a0 (.cn a1 (.cn a2 (.cn a3 (.cn ms (.cn a5 (.cn a6 (.cn a7 (.cn a8 .nl))))))))) => ifV (isI a0 && (isI a1 && (isI a2 && (isI a3 && (isSl a5 && (isSl a6 && (isSl a7 && isSl a8))))))) (match ms with
    | .ns => (match l, ids with | [], [] => true | _, _ => false)
    | .sl _ off n _ => ifV (Nat.beq off 0) (ifV (Nat.beq n (lenL l)) (Option.casesOn (sCells 6 ms h) false (msK l ids)))
    | .so _ off n _ => ifV (Nat.beq off 0) (ifV (Nat.beq n (lenL l)) (Option.casesOn (sCells 6 ms h) false (msK l ids)))
    | _ => false)
  | _ => false
/-- What is asked of the broker for a queue's bodies. -/
def bod (l : List Nat) (a : AV) (ids : List Pa) (h : Hp) (nx : Pa) (k : Hp → Pa → Bool) : Bool :=
  rvB (cQ 27 (.cn a (.cn (.i .i64 (.ofNat 1)) .nl)) h nx) fun b h1 n1 => (match b with
    | .p _ _ => rvB (cQ 27 (.cn a (.cn (.i .i64 (.ofNat 1)) .nl)) h1 n1) fun b2 h2 n2 => rvB (cQ 28 (.cn b2 .nl) h2 n2) fun s h3 n3 => ifV (msV l ids s h3) (k h3 n3)
    | _ => false)
/-- So many queues' bodies asked for. -/
def bods (l : List Nat) (a : AV) (ids : List Pa) (n : Nat) : Hp → Pa → Bool := Nat.rec (motive := fun _ => Hp → Pa → Bool) (fun _ _ => true) (fun _ ih h nx => bod l a ids h nx ih) n
def chk (σ : List Bool) : KS := fun a ids h nx => bods (ins σ) a ids 8 h nx
/-- From a state on, d rounds more. -/
def tree (d : Nat) : List Bool → KS := Nat.rec (motive := fun _ => List Bool → KS) chk
  (fun _ ih σ a ids h nx => ifV (chk σ a ids h nx) (ifV (G (lenL σ) true a ids h nx (ih (true :: σ))) (Bool.rec (motive := fun _ => Bool) true (G (lenL σ) false a ids h nx (ih (false :: σ))) (Nat.ble 6 (lenL σ))))) d
end
end Go.Proofs.YtkjdclpneaepkaaGreat.Qu
