/-
  No cell of these rows narrows 'for every input' (looked for: loops, veiled, ifaces, maps, wideKeys, modest, calm, conditions, laid).
  DERIVED. THE GIVEN ROWS OF THIS SEAT. 5 by the template 'for every input the law returns true; each argument reads behind the call as it read before'; 0 by the template 'total and deterministic' (their statements: YtlbpmhpcoihlnaaTotals.lean).
  GIVEN WITH THE SEED: the statements are not yours to turn. If you find one false, say at which input.
  Laid BY PROGRAM, IN A SANDBOX (cutbox-rows.mjs): the forced cells as the released guide's own fill.sh prints them over the translation ac3bbecd729d0b94… (all of the seat's roots in one cut). By AI agents, Wed Nov 11 2026. No macro, syntax, notation, axiom, sorry.
-/
import Derived.Test.YtlbpmhpcoihlnaaChecked
import GoSem.Claim
import GoSem.ClaimJoined
import GoSem.ClaimMapViews
import Derived.JoinedTies
import Derived.KernelRfl
namespace Go.Proofs.Ytlbpmhpcoihlnaa
/- THE CELL 'sum', in the pinned program and in every row, IS THE sha256 OF THE DUMP (.gsa) THAT YtlbpmhpcoihlnaaProg.lean LOADS. Nothing in Lean hashes anything: it is a label: what it is worth is what the hold of that sum in a sandbox is worth. -/
noncomputable def Try.pinned : Pinned := { name := "ytlbpmhpcoihlnaa", sum := "ac3bbecd729d0b944424d7931a7572b47b20e481c3eb2c426e4ed88e0728eb05", checked := Try.checked }
namespace Rows
def none {H : Type} : Left H := { results := [], args := [] }

/-- 'postillionlaw18.VoteAll': WHATEVER THE INPUT: true; the input reads as it did. -/
def voteAllSpec : ChangeSpec := { name := "voteAll", fn := fun _ => fun
  | [d1, d2] => { results := [.lit (.bool true)], args := [d1, d2] }
  | _ => none }
def voteAllRow : OpenClaim := { program := "ytlbpmhpcoihlnaa", sum := "ac3bbecd729d0b944424d7931a7572b47b20e481c3eb2c426e4ed88e0728eb05", func := "postillion/postillionlaw18.VoteAll", spec := "voteAll", unfollowed := true, recurses := true, apart := false }
def VoteAllSaid : Prop := voteAllRow.holds Try.pinned (OpenSpec.ofChange voteAllSpec)

/-- ITS FALSE NEIGHBOUR: 'it returns false'. Refute it at one input. -/
def voteAllWrong : ChangeSpec := { name := "voteAll", fn := fun _ => fun
  | [d1, d2] => { results := [.lit (.bool false)], args := [d1, d2] }
  | _ => none }
def VoteAllWrongFalsely : Prop := voteAllRow.holds Try.pinned (OpenSpec.ofChange voteAllWrong)

/-- 'postillionlaw18.VoteOrder': WHATEVER THE INPUT: true; the input reads as it did. -/
def voteOrderSpec : ChangeSpec := { name := "voteOrder", fn := fun _ => fun
  | [d1, d2, d3] => { results := [.lit (.bool true)], args := [d1, d2, d3] }
  | _ => none }
def voteOrderRow : OpenClaim := { program := "ytlbpmhpcoihlnaa", sum := "ac3bbecd729d0b944424d7931a7572b47b20e481c3eb2c426e4ed88e0728eb05", func := "postillion/postillionlaw18.VoteOrder", spec := "voteOrder", unfollowed := true, recurses := true, apart := false }
def VoteOrderSaid : Prop := voteOrderRow.holds Try.pinned (OpenSpec.ofChange voteOrderSpec)

/-- ITS FALSE NEIGHBOUR: 'it returns false'. Refute it at one input. -/
def voteOrderWrong : ChangeSpec := { name := "voteOrder", fn := fun _ => fun
  | [d1, d2, d3] => { results := [.lit (.bool false)], args := [d1, d2, d3] }
  | _ => none }
def VoteOrderWrongFalsely : Prop := voteOrderRow.holds Try.pinned (OpenSpec.ofChange voteOrderWrong)

/-- 'postillionlaw18.VoteNone': WHATEVER THE INPUT: true; the input reads as it did. -/
def voteNoneSpec : ChangeSpec := { name := "voteNone", fn := fun _ => fun
  | [] => { results := [.lit (.bool true)], args := [] }
  | _ => none }
def voteNoneRow : OpenClaim := { program := "ytlbpmhpcoihlnaa", sum := "ac3bbecd729d0b944424d7931a7572b47b20e481c3eb2c426e4ed88e0728eb05", func := "postillion/postillionlaw18.VoteNone", spec := "voteNone", unfollowed := true, recurses := true, apart := false }
def VoteNoneSaid : Prop := voteNoneRow.holds Try.pinned (OpenSpec.ofChange voteNoneSpec)

/-- ITS FALSE NEIGHBOUR: 'it returns false'. Refute it at one input. -/
def voteNoneWrong : ChangeSpec := { name := "voteNone", fn := fun _ => fun
  | [] => { results := [.lit (.bool false)], args := [] }
  | _ => none }
def VoteNoneWrongFalsely : Prop := voteNoneRow.holds Try.pinned (OpenSpec.ofChange voteNoneWrong)

/-- 'postillionlaw18.VoteLate': WHATEVER THE INPUT: true; the input reads as it did. -/
def voteLateSpec : ChangeSpec := { name := "voteLate", fn := fun _ => fun
  | [d1, d2, d3] => { results := [.lit (.bool true)], args := [d1, d2, d3] }
  | _ => none }
def voteLateRow : OpenClaim := { program := "ytlbpmhpcoihlnaa", sum := "ac3bbecd729d0b944424d7931a7572b47b20e481c3eb2c426e4ed88e0728eb05", func := "postillion/postillionlaw18.VoteLate", spec := "voteLate", unfollowed := true, recurses := true, apart := false }
def VoteLateSaid : Prop := voteLateRow.holds Try.pinned (OpenSpec.ofChange voteLateSpec)

/-- ITS FALSE NEIGHBOUR: 'it returns false'. Refute it at one input. -/
def voteLateWrong : ChangeSpec := { name := "voteLate", fn := fun _ => fun
  | [d1, d2, d3] => { results := [.lit (.bool false)], args := [d1, d2, d3] }
  | _ => none }
def VoteLateWrongFalsely : Prop := voteLateRow.holds Try.pinned (OpenSpec.ofChange voteLateWrong)

/-- 'postillionlaw18.VoteStrangers': WHATEVER THE INPUT: true; the input reads as it did. -/
def voteStrangersSpec : ChangeSpec := { name := "voteStrangers", fn := fun _ => fun
  | [d1, d2, d3] => { results := [.lit (.bool true)], args := [d1, d2, d3] }
  | _ => none }
def voteStrangersRow : OpenClaim := { program := "ytlbpmhpcoihlnaa", sum := "ac3bbecd729d0b944424d7931a7572b47b20e481c3eb2c426e4ed88e0728eb05", func := "postillion/postillionlaw18.VoteStrangers", spec := "voteStrangers", unfollowed := true, recurses := true, apart := false }
def VoteStrangersSaid : Prop := voteStrangersRow.holds Try.pinned (OpenSpec.ofChange voteStrangersSpec)

/-- ITS FALSE NEIGHBOUR: 'it returns false'. Refute it at one input. -/
def voteStrangersWrong : ChangeSpec := { name := "voteStrangers", fn := fun _ => fun
  | [d1, d2, d3] => { results := [.lit (.bool false)], args := [d1, d2, d3] }
  | _ => none }
def VoteStrangersWrongFalsely : Prop := voteStrangersRow.holds Try.pinned (OpenSpec.ofChange voteStrangersWrong)

/- THE SECOND FORM. 'bulk': how many values and letters a reading holds, each counted each time it is reached (what is shared counts as often as it is met; a slice's spare places count too). A statement '..UptoSaid' is the law's where the arguments, and the package variables that the reading takes, are together of bulk at most 1048576: NARROWER than '..Said'. Prove '..Said' where nothing that the law and all that it calls make is longer than what came in: it says more and counts as full. Else prove '..UptoSaid'. A law counts once. -/
mutual
def uptoBulk {H : Type} : DataW H → Nat
  | .lit (.string bytes) => bytes.length + 1
  | .lit _ => 1
  | .nil => 1
  | .ptr d => uptoBulk d + 1
  | .slice elems spare => uptoBulkAll elems + uptoBulkAll spare + 1
  | .agg parts => uptoBulkAll parts + 1
  | .iface _ d => uptoBulk d + 1
  | .map entries => uptoBulkEntries entries + 1
  | .held _ => 1
def uptoBulkAll {H : Type} : List (DataW H) → Nat
  | [] => 0
  | d :: r => uptoBulk d + uptoBulkAll r
def uptoBulkEntries {H : Type} : List (Lit × DataW H) → Nat
  | [] => 0
  | x :: r => uptoBulkEntry x + uptoBulkEntries r
def uptoBulkEntry {H : Type} : Lit × DataW H → Nat
  | (.string bytes, d) => bytes.length + uptoBulk d + 1
  | (_, d) => uptoBulk d + 1
 end
def uptoSmall : (H : Type) → List (DataW H) → Bool := fun _ ds => decide (uptoBulkAll ds ≤ 1048576)
def OpenSpec.upto (s : _root_.Go.ChangeSpec) : _root_.Go.OpenSpec := { _root_.Go.OpenSpec.ofChange s with cond := some uptoSmall }

/-- 'postillionlaw18.VoteAll', WHERE WHAT IT READS IS OF BULK AT MOST 1048576: true; the input reads as it did. -/
def voteAllUptoRow : OpenClaim := { program := "ytlbpmhpcoihlnaa", sum := "ac3bbecd729d0b944424d7931a7572b47b20e481c3eb2c426e4ed88e0728eb05", func := "postillion/postillionlaw18.VoteAll", spec := "voteAll", unfollowed := true, recurses := true, apart := false, narrowed := true }
def VoteAllUptoSaid : Prop := voteAllUptoRow.holds Try.pinned (OpenSpec.upto voteAllSpec)

/-- 'postillionlaw18.VoteOrder', WHERE WHAT IT READS IS OF BULK AT MOST 1048576: true; the input reads as it did. -/
def voteOrderUptoRow : OpenClaim := { program := "ytlbpmhpcoihlnaa", sum := "ac3bbecd729d0b944424d7931a7572b47b20e481c3eb2c426e4ed88e0728eb05", func := "postillion/postillionlaw18.VoteOrder", spec := "voteOrder", unfollowed := true, recurses := true, apart := false, narrowed := true }
def VoteOrderUptoSaid : Prop := voteOrderUptoRow.holds Try.pinned (OpenSpec.upto voteOrderSpec)

/-- 'postillionlaw18.VoteNone', WHERE WHAT IT READS IS OF BULK AT MOST 1048576: true; the input reads as it did. -/
def voteNoneUptoRow : OpenClaim := { program := "ytlbpmhpcoihlnaa", sum := "ac3bbecd729d0b944424d7931a7572b47b20e481c3eb2c426e4ed88e0728eb05", func := "postillion/postillionlaw18.VoteNone", spec := "voteNone", unfollowed := true, recurses := true, apart := false, narrowed := true }
def VoteNoneUptoSaid : Prop := voteNoneUptoRow.holds Try.pinned (OpenSpec.upto voteNoneSpec)

/-- 'postillionlaw18.VoteLate', WHERE WHAT IT READS IS OF BULK AT MOST 1048576: true; the input reads as it did. -/
def voteLateUptoRow : OpenClaim := { program := "ytlbpmhpcoihlnaa", sum := "ac3bbecd729d0b944424d7931a7572b47b20e481c3eb2c426e4ed88e0728eb05", func := "postillion/postillionlaw18.VoteLate", spec := "voteLate", unfollowed := true, recurses := true, apart := false, narrowed := true }
def VoteLateUptoSaid : Prop := voteLateUptoRow.holds Try.pinned (OpenSpec.upto voteLateSpec)

/-- 'postillionlaw18.VoteStrangers', WHERE WHAT IT READS IS OF BULK AT MOST 1048576: true; the input reads as it did. -/
def voteStrangersUptoRow : OpenClaim := { program := "ytlbpmhpcoihlnaa", sum := "ac3bbecd729d0b944424d7931a7572b47b20e481c3eb2c426e4ed88e0728eb05", func := "postillion/postillionlaw18.VoteStrangers", spec := "voteStrangers", unfollowed := true, recurses := true, apart := false, narrowed := true }
def VoteStrangersUptoSaid : Prop := voteStrangersUptoRow.holds Try.pinned (OpenSpec.upto voteStrangersSpec)

end Rows
end Go.Proofs.Ytlbpmhpcoihlnaa
