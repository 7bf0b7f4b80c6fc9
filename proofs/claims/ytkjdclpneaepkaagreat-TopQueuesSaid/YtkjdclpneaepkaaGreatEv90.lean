/- TopQueues: hooks for queues' names that are not known (kind.Queue, order.Room), for the first bytes of a frame (seg.sized). -/
import Derived.Test.YtkjdclpneaepkaaGreatEv71
set_option linter.unusedVariables false
open Go Go.Ev Go.Proofs Go.RowKit
namespace Go.Ev
noncomputable section
def hQueue : Hook := fun a h nx => match a with
  | .cn (.y _ _ _) .nl => .ok (.b true) h nx
  | _ => .bad 160
/-- Bytes? -/
def isBy (v : AV) : Bool := match v with
  | .uk => true
  | .i k (.ofNat m) => eqK k .u8 && Nat.ble m 255
  | _ => false
def bysA (c : AV) : Bool := AV.rec (motive := fun _ => Bool) true (fun h _ _ ih => bif isBy h then ih else false) (fun _ => false) (fun _ _ => false) (fun _ => false) false (fun _ _ => false) false false (fun _ _ _ _ => false) (fun _ _ _ _ => false) false (fun _ => false) false (fun _ => false) false (fun _ _ _ _ _ => false) (fun _ _ => false) (fun _ _ => false) false (fun _ _ _ => false) c
def six : T AV := setP (some .uk) (path 5) (setP (some .uk) (path 4) (setP (some .uk) (path 3) (setP (some .uk) (path 2) (setP (some .uk) (path 1) (setP (some .uk) (path 0) .lf)))))
def hSized : Hook := fun a h nx => match a with
  | .cn x .nl => Option.casesOn (sCells 1 x h) (.bad 161) fun c => bif bysA c && Nat.ble (sizeA c) 60000 then .ok (.so nx 0 6 1) (setP (some (.ce six 6 true false)) nx h) nx.succ else .bad 161
  | _ => .bad 161
def nmA (c : AV) : Option (List Pa) := AV.rec (motive := fun _ => Option (List Pa)) (some []) (fun h _ _ ih => match h with | .y id _ _ => Option.casesOn ih none fun r => some (id :: r) | _ => none) (fun _ => none) (fun _ _ => none) (fun _ => none) none (fun _ _ => none) none none (fun _ _ _ _ => none) (fun _ _ _ _ => none) none (fun _ => none) none (fun _ => none) none (fun _ _ _ _ _ => none) (fun _ _ => none) (fun _ _ => none) none (fun _ _ _ => none) c
/-- One block alone, to be read. -/
def oneB (x : AV) (h : Hp) : Option Hp := match x with
  | .ns => some .lf
  | .sl id _ _ _ => Option.casesOn (getP id h) none fun b => Blk.casesOn b (fun t n _ pl => some (setP (some (.ce t n false pl)) id .lf)) (fun _ _ => none) (fun _ _ _ _ => none) (fun _ _ _ _ => none)
  | .so id _ _ _ => Option.casesOn (getP id h) none fun b => Blk.casesOn b (fun t n _ pl => some (setP (some (.ce t n false pl)) id .lf)) (fun _ _ => none) (fun _ _ _ _ => none) (fun _ _ _ _ => none)
  | _ => none
/-- The names in a slice, made by nobody else. -/
def nmV (v : AV) (h : Hp) : Option (List Pa) := match v with
  | .ns => some []
  | .so id off n es => bif Nat.beq off 0 && Nat.beq es 1 && Nat.blt 0 n then Option.casesOn (getP id h) none fun b => Blk.casesOn b (fun _ _ rw pl => bif rw && pl then Option.casesOn (sCells 1 v h) none nmA else none) (fun _ _ => none) (fun _ _ _ _ => none) (fun _ _ _ _ => none) else none
  | _ => none
/-- What order.names tells. -/
def nmR (c : CallF) (f : Nat) (s m ms : AV) (h : Hp) (nx : Pa) : Option (List Pa) := Option.casesOn (oneB ms h) none fun h0 => Rv.casesOn (c f (.cn s (.cn m .nl)) h0 nx) (fun _ => none) fun v h1 _ => nmV v h1
def hRoom (c : CallF) (f : Nat) : Hook := fun a h nx => match a with
  | .cn (.ag (.cn a0 (.cn a1 (.cn a2 (.cn a3 (.cn ms (.cn a5 (.cn a6 (.cn a7 (.cn a8 .nl)))))))))) (.cn (.y id l r) (.cn .ns .nl)) =>
    Option.casesOn (nmR c f (.ag (.cn a0 (.cn a1 (.cn a2 (.cn a3 (.cn ms (.cn a5 (.cn a6 (.cn a7 (.cn a8 .nl)))))))))) .ns ms h nx) (.bad 162) fun ids => bif eqPl ids l && Nat.ble (lenL l) 1000 then .ok (.b r) h nx else .bad 163
  | _ => .bad 164
end
end Go.Ev
namespace Go.Proofs.YtkjdclpneaepkaaGreat
noncomputable def TQ : T Hook := setP (some (hRoom cY 381)) (path 278) (setP (some hSized) (path 428) (setP (some hQueue) (path 124) TY))
noncomputable def cQ : CallF := runXT Tryz.prog tbAll (fun f => getP (path f) TQ) 200
end Go.Proofs.YtkjdclpneaepkaaGreat
