/- Memory written down: blocks by numbers. -/
import Derived.Test.YtkjdclpneaepkaaGreatEv73
set_option linter.unusedVariables false
open Go Go.Ev Go.RowKit
namespace Go.Proofs.YtkjdclpneaepkaaGreat
noncomputable section
def sL (x : Code) : Code := match x with | .seq a _ => a | _ => .skip
def sR (x : Code) : Code := match x with | .seq _ b => b | _ => .skip
def sX (x : Code) : Code := match x with | .block _ (.loop a) => a | _ => .skip
namespace Lit
def c (h t : AV) : AV := .cn h t
def n : AV := .nl
def j (n : Nat) : AV := .i .i64 (.ofNat n)
def u (n : Nat) : AV := .i .u8 (.ofNat n)
def b (x : Bool) : AV := .b x
def s (l : List Nat) : AV := .s l
def p (id off : Nat) : AV := .p (path id) off
def sl (id off len cap : Nat) : AV := .sl (path id) off len cap
def so (id off len es : Nat) : AV := .so (path id) off len es
def m (id : Nat) : AV := .m (path id)
def h (id : Nat) : AV := .c (path id)
def cells (l : List AV) : Nat → T AV → T AV := List.rec (motive := fun _ => Nat → T AV → T AV) (fun _ t => t) (fun v _ ih i t => ih (Nat.succ i) (setP (some v) (path i) t)) l
def pairs (l : List (Nat × AV)) : T AV → T AV := List.rec (motive := fun _ => T AV → T AV) (fun t => t) (fun q _ ih t => ih (setP (some q.2) (path q.1) t)) l
def C (n : Nat) (rw pl : Bool) (l : List AV) : Blk := .ce (cells l 0 .lf) n rw pl
def D (n : Nat) (rw pl : Bool) (l : List (Nat × AV)) : Blk := .ce (pairs l .lf) n rw pl
def M (es : List ME) (clk : Nat) : Blk := .mp es clk
def H (cap : Nat) (buf : AV) (s r : Nat) : Blk := .ch cap buf s r
def heap (l : List (Nat × Blk)) : Hp := List.rec (motive := fun _ => Hp) .lf (fun q _ ih => setP (some q.2) (path q.1) ih) l
def frame (l : List (Nat × AV)) : T AV := pairs l .lf
end Lit
end
end Go.Proofs.YtkjdclpneaepkaaGreat
