/-
  No cell of these rows narrows 'for every input' (looked for: loops, veiled, ifaces, maps, wideKeys, modest, calm, conditions, laid).
  DERIVED. THE GIVEN ROWS OF THIS SEAT. 11 by the template 'for every input the law returns true; each argument reads behind the call as it read before'; 0 by the template 'total and deterministic' (their statements: YtkjdclpneaepkaaGreatTotals.lean).
  GIVEN WITH THE SEED: the statements are not yours to turn. If you find one false, say at which input.
  Laid BY PROGRAM, IN A SANDBOX (cutbox-rows.mjs): the forced cells as the released guide's own fill.sh prints them over the translation 2c92beeb0dac3445… (all of the seat's roots in one cut). By AI agents, Wed Nov 11 2026. No macro, syntax, notation, axiom, sorry.
-/
import Derived.Test.YtkjdclpneaepkaaGreatChecked
import GoSem.Claim
import GoSem.ClaimJoined
import GoSem.ClaimMapViews
import Derived.JoinedTies
import Derived.KernelRfl
namespace Go.Proofs.YtkjdclpneaepkaaGreat
/- THE CELL 'sum', in the pinned program and in every row, IS THE sha256 OF THE DUMP (.gsa) THAT YtkjdclpneaepkaaGreatProg.lean LOADS. Nothing in Lean hashes anything: it is a label: what it is worth is what the hold of that sum in a sandbox is worth. -/
noncomputable def Tryz.pinned : Pinned := { name := "ytkjdclpneaepkaagreat", sum := "2c92beeb0dac3445df07e2fe803eb79607e2aac5e40ede2baef599428287d889", checked := Tryz.checked }
namespace Rows
def none {H : Type} : Left H := { results := [], args := [] }

/-- 'postilliontop.TopOrder': WHATEVER THE INPUT: true; the input reads as it did. -/
def topOrderSpec : ChangeSpec := { name := "topOrder", fn := fun _ => fun
  | [d] => { results := [.lit (.bool true)], args := [d] }
  | _ => none }
def topOrderRow : OpenClaim := { program := "ytkjdclpneaepkaagreat", sum := "2c92beeb0dac3445df07e2fe803eb79607e2aac5e40ede2baef599428287d889", func := "postillion/postilliontop.TopOrder", spec := "topOrder", inPlace := ["slices.overlaps[postillion/api.End]", "slices.overlaps[postillion/api.Branch]", "slices.overlaps[postillion/api.Pend]", "slices.overlaps[postillion/bag.some[string]]"], unfollowed := true, recurses := true, apart := false }
def TopOrderSaid : Prop := topOrderRow.holds Tryz.pinned (OpenSpec.ofChange topOrderSpec)

/-- ITS FALSE NEIGHBOUR: 'it returns false'. Refute it at one input. -/
def topOrderWrong : ChangeSpec := { name := "topOrder", fn := fun _ => fun
  | [d] => { results := [.lit (.bool false)], args := [d] }
  | _ => none }
def TopOrderWrongFalsely : Prop := topOrderRow.holds Tryz.pinned (OpenSpec.ofChange topOrderWrong)

/-- 'postilliontop.TopHidden': WHATEVER THE INPUT: true; the input reads as it did. -/
def topHiddenSpec : ChangeSpec := { name := "topHidden", fn := fun _ => fun
  | [d] => { results := [.lit (.bool true)], args := [d] }
  | _ => none }
def topHiddenRow : OpenClaim := { program := "ytkjdclpneaepkaagreat", sum := "2c92beeb0dac3445df07e2fe803eb79607e2aac5e40ede2baef599428287d889", func := "postillion/postilliontop.TopHidden", spec := "topHidden", inPlace := ["slices.overlaps[postillion/api.End]", "slices.overlaps[postillion/api.Branch]", "slices.overlaps[postillion/api.Pend]", "slices.overlaps[postillion/bag.some[string]]"], unfollowed := true, recurses := true, apart := false }
def TopHiddenSaid : Prop := topHiddenRow.holds Tryz.pinned (OpenSpec.ofChange topHiddenSpec)

/-- ITS FALSE NEIGHBOUR: 'it returns false'. Refute it at one input. -/
def topHiddenWrong : ChangeSpec := { name := "topHidden", fn := fun _ => fun
  | [d] => { results := [.lit (.bool false)], args := [d] }
  | _ => none }
def TopHiddenWrongFalsely : Prop := topHiddenRow.holds Tryz.pinned (OpenSpec.ofChange topHiddenWrong)

/-- 'postilliontop.TopFull': WHATEVER THE INPUT: true; the input reads as it did. -/
def topFullSpec : ChangeSpec := { name := "topFull", fn := fun _ => fun
  | [d1, d2] => { results := [.lit (.bool true)], args := [d1, d2] }
  | _ => none }
def topFullRow : OpenClaim := { program := "ytkjdclpneaepkaagreat", sum := "2c92beeb0dac3445df07e2fe803eb79607e2aac5e40ede2baef599428287d889", func := "postillion/postilliontop.TopFull", spec := "topFull", inPlace := ["slices.overlaps[postillion/api.End]", "slices.overlaps[postillion/api.Branch]", "slices.overlaps[postillion/api.Pend]", "slices.overlaps[postillion/bag.some[string]]"], unfollowed := true, recurses := true, apart := false }
def TopFullSaid : Prop := topFullRow.holds Tryz.pinned (OpenSpec.ofChange topFullSpec)

/-- ITS FALSE NEIGHBOUR: 'it returns false'. Refute it at one input. -/
def topFullWrong : ChangeSpec := { name := "topFull", fn := fun _ => fun
  | [d1, d2] => { results := [.lit (.bool false)], args := [d1, d2] }
  | _ => none }
def TopFullWrongFalsely : Prop := topFullRow.holds Tryz.pinned (OpenSpec.ofChange topFullWrong)

/-- 'postilliontop.TopRequests': WHATEVER THE INPUT: true; the input reads as it did. -/
def topRequestsSpec : ChangeSpec := { name := "topRequests", fn := fun _ => fun
  | [d] => { results := [.lit (.bool true)], args := [d] }
  | _ => none }
def topRequestsRow : OpenClaim := { program := "ytkjdclpneaepkaagreat", sum := "2c92beeb0dac3445df07e2fe803eb79607e2aac5e40ede2baef599428287d889", func := "postillion/postilliontop.TopRequests", spec := "topRequests", inPlace := ["slices.overlaps[postillion/api.End]", "slices.overlaps[postillion/api.Branch]", "slices.overlaps[postillion/api.Pend]", "slices.overlaps[postillion/bag.some[string]]"], unfollowed := true, recurses := true, apart := false }
def TopRequestsSaid : Prop := topRequestsRow.holds Tryz.pinned (OpenSpec.ofChange topRequestsSpec)

/-- ITS FALSE NEIGHBOUR: 'it returns false'. Refute it at one input. -/
def topRequestsWrong : ChangeSpec := { name := "topRequests", fn := fun _ => fun
  | [d] => { results := [.lit (.bool false)], args := [d] }
  | _ => none }
def TopRequestsWrongFalsely : Prop := topRequestsRow.holds Tryz.pinned (OpenSpec.ofChange topRequestsWrong)

/-- 'postilliontop.TopIds': WHATEVER THE INPUT: true; the input reads as it did. -/
def topIdsSpec : ChangeSpec := { name := "topIds", fn := fun _ => fun
  | [d] => { results := [.lit (.bool true)], args := [d] }
  | _ => none }
def topIdsRow : OpenClaim := { program := "ytkjdclpneaepkaagreat", sum := "2c92beeb0dac3445df07e2fe803eb79607e2aac5e40ede2baef599428287d889", func := "postillion/postilliontop.TopIds", spec := "topIds", inPlace := ["slices.overlaps[postillion/api.End]", "slices.overlaps[postillion/api.Branch]", "slices.overlaps[postillion/api.Pend]", "slices.overlaps[postillion/bag.some[string]]"], unfollowed := true, recurses := true, apart := false }
def TopIdsSaid : Prop := topIdsRow.holds Tryz.pinned (OpenSpec.ofChange topIdsSpec)

/-- ITS FALSE NEIGHBOUR: 'it returns false'. Refute it at one input. -/
def topIdsWrong : ChangeSpec := { name := "topIds", fn := fun _ => fun
  | [d] => { results := [.lit (.bool false)], args := [d] }
  | _ => none }
def TopIdsWrongFalsely : Prop := topIdsRow.holds Tryz.pinned (OpenSpec.ofChange topIdsWrong)

/-- 'postilliontop.TopTwo': WHATEVER THE INPUT: true; the input reads as it did. -/
def topTwoSpec : ChangeSpec := { name := "topTwo", fn := fun _ => fun
  | [d1, d2, d3] => { results := [.lit (.bool true)], args := [d1, d2, d3] }
  | _ => none }
def topTwoRow : OpenClaim := { program := "ytkjdclpneaepkaagreat", sum := "2c92beeb0dac3445df07e2fe803eb79607e2aac5e40ede2baef599428287d889", func := "postillion/postilliontop.TopTwo", spec := "topTwo", inPlace := ["slices.overlaps[postillion/api.End]", "slices.overlaps[postillion/api.Branch]", "slices.overlaps[postillion/api.Pend]", "slices.overlaps[postillion/bag.some[string]]"], unfollowed := true, recurses := true, apart := false }
def TopTwoSaid : Prop := topTwoRow.holds Tryz.pinned (OpenSpec.ofChange topTwoSpec)

/-- ITS FALSE NEIGHBOUR: 'it returns false'. Refute it at one input. -/
def topTwoWrong : ChangeSpec := { name := "topTwo", fn := fun _ => fun
  | [d1, d2, d3] => { results := [.lit (.bool false)], args := [d1, d2, d3] }
  | _ => none }
def TopTwoWrongFalsely : Prop := topTwoRow.holds Tryz.pinned (OpenSpec.ofChange topTwoWrong)

/-- 'postilliontop.TopChainOf': WHATEVER THE INPUT: true; the input reads as it did. -/
def topChainOfSpec : ChangeSpec := { name := "topChainOf", fn := fun _ => fun
  | [d1, d2] => { results := [.lit (.bool true)], args := [d1, d2] }
  | _ => none }
def topChainOfRow : OpenClaim := { program := "ytkjdclpneaepkaagreat", sum := "2c92beeb0dac3445df07e2fe803eb79607e2aac5e40ede2baef599428287d889", func := "postillion/postilliontop.TopChainOf", spec := "topChainOf", inPlace := ["slices.overlaps[postillion/api.End]", "slices.overlaps[postillion/api.Branch]", "slices.overlaps[postillion/api.Pend]", "slices.overlaps[postillion/bag.some[string]]"], unfollowed := true, recurses := true, apart := false }
def TopChainOfSaid : Prop := topChainOfRow.holds Tryz.pinned (OpenSpec.ofChange topChainOfSpec)

/-- ITS FALSE NEIGHBOUR: 'it returns false'. Refute it at one input. -/
def topChainOfWrong : ChangeSpec := { name := "topChainOf", fn := fun _ => fun
  | [d1, d2] => { results := [.lit (.bool false)], args := [d1, d2] }
  | _ => none }
def TopChainOfWrongFalsely : Prop := topChainOfRow.holds Tryz.pinned (OpenSpec.ofChange topChainOfWrong)

/-- 'postilliontop.TopLong': WHATEVER THE INPUT: true; the input reads as it did. -/
def topLongSpec : ChangeSpec := { name := "topLong", fn := fun _ => fun
  | [d] => { results := [.lit (.bool true)], args := [d] }
  | _ => none }
def topLongRow : OpenClaim := { program := "ytkjdclpneaepkaagreat", sum := "2c92beeb0dac3445df07e2fe803eb79607e2aac5e40ede2baef599428287d889", func := "postillion/postilliontop.TopLong", spec := "topLong", inPlace := ["slices.overlaps[postillion/api.End]", "slices.overlaps[postillion/api.Branch]", "slices.overlaps[postillion/api.Pend]", "slices.overlaps[postillion/bag.some[string]]"], unfollowed := true, recurses := true, apart := false }
def TopLongSaid : Prop := topLongRow.holds Tryz.pinned (OpenSpec.ofChange topLongSpec)

/-- ITS FALSE NEIGHBOUR: 'it returns false'. Refute it at one input. -/
def topLongWrong : ChangeSpec := { name := "topLong", fn := fun _ => fun
  | [d] => { results := [.lit (.bool false)], args := [d] }
  | _ => none }
def TopLongWrongFalsely : Prop := topLongRow.holds Tryz.pinned (OpenSpec.ofChange topLongWrong)

/-- 'postilliontop.TopQueues': WHATEVER THE INPUT: true; the input reads as it did. -/
def topQueuesSpec : ChangeSpec := { name := "topQueues", fn := fun _ => fun
  | [d] => { results := [.lit (.bool true)], args := [d] }
  | _ => none }
def topQueuesRow : OpenClaim := { program := "ytkjdclpneaepkaagreat", sum := "2c92beeb0dac3445df07e2fe803eb79607e2aac5e40ede2baef599428287d889", func := "postillion/postilliontop.TopQueues", spec := "topQueues", inPlace := ["slices.overlaps[postillion/api.End]", "slices.overlaps[postillion/api.Branch]", "slices.overlaps[postillion/api.Pend]", "slices.overlaps[postillion/bag.some[string]]"], unfollowed := true, recurses := true, apart := false }
def TopQueuesSaid : Prop := topQueuesRow.holds Tryz.pinned (OpenSpec.ofChange topQueuesSpec)

/-- ITS FALSE NEIGHBOUR: 'it returns false'. Refute it at one input. -/
def topQueuesWrong : ChangeSpec := { name := "topQueues", fn := fun _ => fun
  | [d] => { results := [.lit (.bool false)], args := [d] }
  | _ => none }
def TopQueuesWrongFalsely : Prop := topQueuesRow.holds Tryz.pinned (OpenSpec.ofChange topQueuesWrong)

/-- 'postilliontop.TopTakeOrder': WHATEVER THE INPUT: true; the input reads as it did. -/
def topTakeOrderSpec : ChangeSpec := { name := "topTakeOrder", fn := fun _ => fun
  | [d] => { results := [.lit (.bool true)], args := [d] }
  | _ => none }
def topTakeOrderRow : OpenClaim := { program := "ytkjdclpneaepkaagreat", sum := "2c92beeb0dac3445df07e2fe803eb79607e2aac5e40ede2baef599428287d889", func := "postillion/postilliontop.TopTakeOrder", spec := "topTakeOrder", inPlace := ["slices.overlaps[postillion/api.End]", "slices.overlaps[postillion/api.Branch]", "slices.overlaps[postillion/api.Pend]", "slices.overlaps[postillion/bag.some[string]]"], unfollowed := true, recurses := true, apart := false }
def TopTakeOrderSaid : Prop := topTakeOrderRow.holds Tryz.pinned (OpenSpec.ofChange topTakeOrderSpec)

/-- ITS FALSE NEIGHBOUR: 'it returns false'. Refute it at one input. -/
def topTakeOrderWrong : ChangeSpec := { name := "topTakeOrder", fn := fun _ => fun
  | [d] => { results := [.lit (.bool false)], args := [d] }
  | _ => none }
def TopTakeOrderWrongFalsely : Prop := topTakeOrderRow.holds Tryz.pinned (OpenSpec.ofChange topTakeOrderWrong)

/-- 'postilliontop.TopStatus': WHATEVER THE INPUT: true; the input reads as it did. -/
def topStatusSpec : ChangeSpec := { name := "topStatus", fn := fun _ => fun
  | [d] => { results := [.lit (.bool true)], args := [d] }
  | _ => none }
def topStatusRow : OpenClaim := { program := "ytkjdclpneaepkaagreat", sum := "2c92beeb0dac3445df07e2fe803eb79607e2aac5e40ede2baef599428287d889", func := "postillion/postilliontop.TopStatus", spec := "topStatus", inPlace := ["slices.overlaps[postillion/api.End]", "slices.overlaps[postillion/api.Branch]", "slices.overlaps[postillion/api.Pend]", "slices.overlaps[postillion/bag.some[string]]"], unfollowed := true, recurses := true, apart := false }
def TopStatusSaid : Prop := topStatusRow.holds Tryz.pinned (OpenSpec.ofChange topStatusSpec)

/-- ITS FALSE NEIGHBOUR: 'it returns false'. Refute it at one input. -/
def topStatusWrong : ChangeSpec := { name := "topStatus", fn := fun _ => fun
  | [d] => { results := [.lit (.bool false)], args := [d] }
  | _ => none }
def TopStatusWrongFalsely : Prop := topStatusRow.holds Tryz.pinned (OpenSpec.ofChange topStatusWrong)

/- THE SECOND FORM. 'bulk': how many values and letters a reading holds, each counted each time it is reached (what is shared counts as often as it is met; a slice's spare places count too). A statement '..UptoSaid' is the law's where the arguments, and the package variables that the reading takes, are together of bulk at most 1048576: NARROWER than '..Said'. Prove '..Said' where nothing that the law and all that it calls make is longer than what came in: it says more and counts as full. Else prove '..UptoSaid'. A law counts once. -/
mutual
def uptoBulk {H : Type} : DataW H → Nat
  | .lit (.string bytes) => bytes.length + 1
  | .lit _ => 1
  | .nil => 1
  | .ptr d => uptoBulk d + 1
  | .slice elems spare => uptoBulkAll elems + uptoBulkAll spare + 1
  | .agg parts => uptoBulkAll parts + 1
  | .iface _ d => uptoBulk d + 1
  | .map entries => uptoBulkEntries entries + 1
  | .held _ => 1
def uptoBulkAll {H : Type} : List (DataW H) → Nat
  | [] => 0
  | d :: r => uptoBulk d + uptoBulkAll r
def uptoBulkEntries {H : Type} : List (Lit × DataW H) → Nat
  | [] => 0
  | x :: r => uptoBulkEntry x + uptoBulkEntries r
def uptoBulkEntry {H : Type} : Lit × DataW H → Nat
  | (.string bytes, d) => bytes.length + uptoBulk d + 1
  | (_, d) => uptoBulk d + 1
 end
def uptoSmall : (H : Type) → List (DataW H) → Bool := fun _ ds => decide (uptoBulkAll ds ≤ 1048576)
def OpenSpec.upto (s : _root_.Go.ChangeSpec) : _root_.Go.OpenSpec := { _root_.Go.OpenSpec.ofChange s with cond := some uptoSmall }

/-- 'postilliontop.TopOrder', WHERE WHAT IT READS IS OF BULK AT MOST 1048576: true; the input reads as it did. -/
def topOrderUptoRow : OpenClaim := { program := "ytkjdclpneaepkaagreat", sum := "2c92beeb0dac3445df07e2fe803eb79607e2aac5e40ede2baef599428287d889", func := "postillion/postilliontop.TopOrder", spec := "topOrder", inPlace := ["slices.overlaps[postillion/api.End]", "slices.overlaps[postillion/api.Branch]", "slices.overlaps[postillion/api.Pend]", "slices.overlaps[postillion/bag.some[string]]"], unfollowed := true, recurses := true, apart := false, narrowed := true }
def TopOrderUptoSaid : Prop := topOrderUptoRow.holds Tryz.pinned (OpenSpec.upto topOrderSpec)

/-- 'postilliontop.TopHidden', WHERE WHAT IT READS IS OF BULK AT MOST 1048576: true; the input reads as it did. -/
def topHiddenUptoRow : OpenClaim := { program := "ytkjdclpneaepkaagreat", sum := "2c92beeb0dac3445df07e2fe803eb79607e2aac5e40ede2baef599428287d889", func := "postillion/postilliontop.TopHidden", spec := "topHidden", inPlace := ["slices.overlaps[postillion/api.End]", "slices.overlaps[postillion/api.Branch]", "slices.overlaps[postillion/api.Pend]", "slices.overlaps[postillion/bag.some[string]]"], unfollowed := true, recurses := true, apart := false, narrowed := true }
def TopHiddenUptoSaid : Prop := topHiddenUptoRow.holds Tryz.pinned (OpenSpec.upto topHiddenSpec)

/-- 'postilliontop.TopFull', WHERE WHAT IT READS IS OF BULK AT MOST 1048576: true; the input reads as it did. -/
def topFullUptoRow : OpenClaim := { program := "ytkjdclpneaepkaagreat", sum := "2c92beeb0dac3445df07e2fe803eb79607e2aac5e40ede2baef599428287d889", func := "postillion/postilliontop.TopFull", spec := "topFull", inPlace := ["slices.overlaps[postillion/api.End]", "slices.overlaps[postillion/api.Branch]", "slices.overlaps[postillion/api.Pend]", "slices.overlaps[postillion/bag.some[string]]"], unfollowed := true, recurses := true, apart := false, narrowed := true }
def TopFullUptoSaid : Prop := topFullUptoRow.holds Tryz.pinned (OpenSpec.upto topFullSpec)

/-- 'postilliontop.TopRequests', WHERE WHAT IT READS IS OF BULK AT MOST 1048576: true; the input reads as it did. -/
def topRequestsUptoRow : OpenClaim := { program := "ytkjdclpneaepkaagreat", sum := "2c92beeb0dac3445df07e2fe803eb79607e2aac5e40ede2baef599428287d889", func := "postillion/postilliontop.TopRequests", spec := "topRequests", inPlace := ["slices.overlaps[postillion/api.End]", "slices.overlaps[postillion/api.Branch]", "slices.overlaps[postillion/api.Pend]", "slices.overlaps[postillion/bag.some[string]]"], unfollowed := true, recurses := true, apart := false, narrowed := true }
def TopRequestsUptoSaid : Prop := topRequestsUptoRow.holds Tryz.pinned (OpenSpec.upto topRequestsSpec)

/-- 'postilliontop.TopIds', WHERE WHAT IT READS IS OF BULK AT MOST 1048576: true; the input reads as it did. -/
def topIdsUptoRow : OpenClaim := { program := "ytkjdclpneaepkaagreat", sum := "2c92beeb0dac3445df07e2fe803eb79607e2aac5e40ede2baef599428287d889", func := "postillion/postilliontop.TopIds", spec := "topIds", inPlace := ["slices.overlaps[postillion/api.End]", "slices.overlaps[postillion/api.Branch]", "slices.overlaps[postillion/api.Pend]", "slices.overlaps[postillion/bag.some[string]]"], unfollowed := true, recurses := true, apart := false, narrowed := true }
def TopIdsUptoSaid : Prop := topIdsUptoRow.holds Tryz.pinned (OpenSpec.upto topIdsSpec)

/-- 'postilliontop.TopTwo', WHERE WHAT IT READS IS OF BULK AT MOST 1048576: true; the input reads as it did. -/
def topTwoUptoRow : OpenClaim := { program := "ytkjdclpneaepkaagreat", sum := "2c92beeb0dac3445df07e2fe803eb79607e2aac5e40ede2baef599428287d889", func := "postillion/postilliontop.TopTwo", spec := "topTwo", inPlace := ["slices.overlaps[postillion/api.End]", "slices.overlaps[postillion/api.Branch]", "slices.overlaps[postillion/api.Pend]", "slices.overlaps[postillion/bag.some[string]]"], unfollowed := true, recurses := true, apart := false, narrowed := true }
def TopTwoUptoSaid : Prop := topTwoUptoRow.holds Tryz.pinned (OpenSpec.upto topTwoSpec)

/-- 'postilliontop.TopChainOf', WHERE WHAT IT READS IS OF BULK AT MOST 1048576: true; the input reads as it did. -/
def topChainOfUptoRow : OpenClaim := { program := "ytkjdclpneaepkaagreat", sum := "2c92beeb0dac3445df07e2fe803eb79607e2aac5e40ede2baef599428287d889", func := "postillion/postilliontop.TopChainOf", spec := "topChainOf", inPlace := ["slices.overlaps[postillion/api.End]", "slices.overlaps[postillion/api.Branch]", "slices.overlaps[postillion/api.Pend]", "slices.overlaps[postillion/bag.some[string]]"], unfollowed := true, recurses := true, apart := false, narrowed := true }
def TopChainOfUptoSaid : Prop := topChainOfUptoRow.holds Tryz.pinned (OpenSpec.upto topChainOfSpec)

/-- 'postilliontop.TopLong', WHERE WHAT IT READS IS OF BULK AT MOST 1048576: true; the input reads as it did. -/
def topLongUptoRow : OpenClaim := { program := "ytkjdclpneaepkaagreat", sum := "2c92beeb0dac3445df07e2fe803eb79607e2aac5e40ede2baef599428287d889", func := "postillion/postilliontop.TopLong", spec := "topLong", inPlace := ["slices.overlaps[postillion/api.End]", "slices.overlaps[postillion/api.Branch]", "slices.overlaps[postillion/api.Pend]", "slices.overlaps[postillion/bag.some[string]]"], unfollowed := true, recurses := true, apart := false, narrowed := true }
def TopLongUptoSaid : Prop := topLongUptoRow.holds Tryz.pinned (OpenSpec.upto topLongSpec)

/-- 'postilliontop.TopQueues', WHERE WHAT IT READS IS OF BULK AT MOST 1048576: true; the input reads as it did. -/
def topQueuesUptoRow : OpenClaim := { program := "ytkjdclpneaepkaagreat", sum := "2c92beeb0dac3445df07e2fe803eb79607e2aac5e40ede2baef599428287d889", func := "postillion/postilliontop.TopQueues", spec := "topQueues", inPlace := ["slices.overlaps[postillion/api.End]", "slices.overlaps[postillion/api.Branch]", "slices.overlaps[postillion/api.Pend]", "slices.overlaps[postillion/bag.some[string]]"], unfollowed := true, recurses := true, apart := false, narrowed := true }
def TopQueuesUptoSaid : Prop := topQueuesUptoRow.holds Tryz.pinned (OpenSpec.upto topQueuesSpec)

/-- 'postilliontop.TopTakeOrder', WHERE WHAT IT READS IS OF BULK AT MOST 1048576: true; the input reads as it did. -/
def topTakeOrderUptoRow : OpenClaim := { program := "ytkjdclpneaepkaagreat", sum := "2c92beeb0dac3445df07e2fe803eb79607e2aac5e40ede2baef599428287d889", func := "postillion/postilliontop.TopTakeOrder", spec := "topTakeOrder", inPlace := ["slices.overlaps[postillion/api.End]", "slices.overlaps[postillion/api.Branch]", "slices.overlaps[postillion/api.Pend]", "slices.overlaps[postillion/bag.some[string]]"], unfollowed := true, recurses := true, apart := false, narrowed := true }
def TopTakeOrderUptoSaid : Prop := topTakeOrderUptoRow.holds Tryz.pinned (OpenSpec.upto topTakeOrderSpec)

/-- 'postilliontop.TopStatus', WHERE WHAT IT READS IS OF BULK AT MOST 1048576: true; the input reads as it did. -/
def topStatusUptoRow : OpenClaim := { program := "ytkjdclpneaepkaagreat", sum := "2c92beeb0dac3445df07e2fe803eb79607e2aac5e40ede2baef599428287d889", func := "postillion/postilliontop.TopStatus", spec := "topStatus", inPlace := ["slices.overlaps[postillion/api.End]", "slices.overlaps[postillion/api.Branch]", "slices.overlaps[postillion/api.Pend]", "slices.overlaps[postillion/bag.some[string]]"], unfollowed := true, recurses := true, apart := false, narrowed := true }
def TopStatusUptoSaid : Prop := topStatusUptoRow.holds Tryz.pinned (OpenSpec.upto topStatusSpec)

end Rows
end Go.Proofs.YtkjdclpneaepkaaGreat
