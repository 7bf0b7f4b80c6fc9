/-
  No cell of these rows narrows 'for every input' (looked for: loops, veiled, ifaces, maps, wideKeys, modest, calm, conditions, laid).
  DERIVED. THE GIVEN ROWS OF THIS SEAT. 11 by the template 'for every input the law returns true; each argument reads behind the call as it read before'; 0 by the template 'total and deterministic' (their statements: YtgbogbjifpijkaaTotals.lean).
  GIVEN WITH THE SEED: the statements are not yours to turn. If you find one false, say at which input.
  Laid BY PROGRAM, IN A SANDBOX (cutbox-rows.mjs): the forced cells as the released guide's own fill.sh prints them over the translation ac0415beea9a2d23… (all of the seat's roots in one cut). By AI agents, Wed Nov 11 2026. No macro, syntax, notation, axiom, sorry.
-/
import Derived.Test.YtgbogbjifpijkaaChecked
import GoSem.Claim
import GoSem.ClaimJoined
import GoSem.ClaimMapViews
import Derived.JoinedTies
import Derived.KernelRfl
namespace Go.Proofs.Ytgbogbjifpijkaa
/- THE CELL 'sum', in the pinned program and in every row, IS THE sha256 OF THE DUMP (.gsa) THAT YtgbogbjifpijkaaProg.lean LOADS. Nothing in Lean hashes anything: it is a label: what it is worth is what the hold of that sum in a sandbox is worth. -/
noncomputable def Try.pinned : Pinned := { name := "ytgbogbjifpijkaa", sum := "ac0415beea9a2d23c8c41684f37b27699f6b95909ff56fc15d804cecb8f7cc8d", checked := Try.checked }
namespace Rows
def none {H : Type} : Left H := { results := [], args := [] }

/-- 'postillionlaw8.KindNames': WHATEVER THE INPUT: true; the input reads as it did. -/
def kindNamesSpec : ChangeSpec := { name := "kindNames", fn := fun _ => fun
  | [d1, d2, d3] => { results := [.lit (.bool true)], args := [d1, d2, d3] }
  | _ => none }
def kindNamesRow : OpenClaim := { program := "ytgbogbjifpijkaa", sum := "ac0415beea9a2d23c8c41684f37b27699f6b95909ff56fc15d804cecb8f7cc8d", func := "postillion/postillionlaw8.KindNames", spec := "kindNames", unfollowed := true, recurses := true, apart := false }
def KindNamesSaid : Prop := kindNamesRow.holds Try.pinned (OpenSpec.ofChange kindNamesSpec)

/-- ITS FALSE NEIGHBOUR: 'it returns false'. Refute it at one input. -/
def kindNamesWrong : ChangeSpec := { name := "kindNames", fn := fun _ => fun
  | [d1, d2, d3] => { results := [.lit (.bool false)], args := [d1, d2, d3] }
  | _ => none }
def KindNamesWrongFalsely : Prop := kindNamesRow.holds Try.pinned (OpenSpec.ofChange kindNamesWrong)

/-- 'postillionlaw8.KindTids': WHATEVER THE INPUT: true; the input reads as it did. -/
def kindTidsSpec : ChangeSpec := { name := "kindTids", fn := fun _ => fun
  | [d1, d2, d3] => { results := [.lit (.bool true)], args := [d1, d2, d3] }
  | _ => none }
def kindTidsRow : OpenClaim := { program := "ytgbogbjifpijkaa", sum := "ac0415beea9a2d23c8c41684f37b27699f6b95909ff56fc15d804cecb8f7cc8d", func := "postillion/postillionlaw8.KindTids", spec := "kindTids", unfollowed := true, recurses := true, apart := false }
def KindTidsSaid : Prop := kindTidsRow.holds Try.pinned (OpenSpec.ofChange kindTidsSpec)

/-- ITS FALSE NEIGHBOUR: 'it returns false'. Refute it at one input. -/
def kindTidsWrong : ChangeSpec := { name := "kindTids", fn := fun _ => fun
  | [d1, d2, d3] => { results := [.lit (.bool false)], args := [d1, d2, d3] }
  | _ => none }
def KindTidsWrongFalsely : Prop := kindTidsRow.holds Try.pinned (OpenSpec.ofChange kindTidsWrong)

/-- 'postillionlaw8.KindRecords': WHATEVER THE INPUT: true; the input reads as it did. -/
def kindRecordsSpec : ChangeSpec := { name := "kindRecords", fn := fun _ => fun
  | [d1, d2] => { results := [.lit (.bool true)], args := [d1, d2] }
  | _ => none }
def kindRecordsRow : OpenClaim := { program := "ytgbogbjifpijkaa", sum := "ac0415beea9a2d23c8c41684f37b27699f6b95909ff56fc15d804cecb8f7cc8d", func := "postillion/postillionlaw8.KindRecords", spec := "kindRecords", unfollowed := true, recurses := true, apart := false }
def KindRecordsSaid : Prop := kindRecordsRow.holds Try.pinned (OpenSpec.ofChange kindRecordsSpec)

/-- ITS FALSE NEIGHBOUR: 'it returns false'. Refute it at one input. -/
def kindRecordsWrong : ChangeSpec := { name := "kindRecords", fn := fun _ => fun
  | [d1, d2] => { results := [.lit (.bool false)], args := [d1, d2] }
  | _ => none }
def KindRecordsWrongFalsely : Prop := kindRecordsRow.holds Try.pinned (OpenSpec.ofChange kindRecordsWrong)

/-- 'postillionlaw8.KindTurn': WHATEVER THE INPUT: true; the input reads as it did. -/
def kindTurnSpec : ChangeSpec := { name := "kindTurn", fn := fun _ => fun
  | [d1, d2, d3] => { results := [.lit (.bool true)], args := [d1, d2, d3] }
  | _ => none }
def kindTurnRow : OpenClaim := { program := "ytgbogbjifpijkaa", sum := "ac0415beea9a2d23c8c41684f37b27699f6b95909ff56fc15d804cecb8f7cc8d", func := "postillion/postillionlaw8.KindTurn", spec := "kindTurn", unfollowed := true, recurses := true, apart := false }
def KindTurnSaid : Prop := kindTurnRow.holds Try.pinned (OpenSpec.ofChange kindTurnSpec)

/-- ITS FALSE NEIGHBOUR: 'it returns false'. Refute it at one input. -/
def kindTurnWrong : ChangeSpec := { name := "kindTurn", fn := fun _ => fun
  | [d1, d2, d3] => { results := [.lit (.bool false)], args := [d1, d2, d3] }
  | _ => none }
def KindTurnWrongFalsely : Prop := kindTurnRow.holds Try.pinned (OpenSpec.ofChange kindTurnWrong)

/-- 'postillionlaw8.RecAll': WHATEVER THE INPUT: true; the input reads as it did. -/
def recAllSpec : ChangeSpec := { name := "recAll", fn := fun _ => fun
  | [d1, d2] => { results := [.lit (.bool true)], args := [d1, d2] }
  | _ => none }
def recAllRow : OpenClaim := { program := "ytgbogbjifpijkaa", sum := "ac0415beea9a2d23c8c41684f37b27699f6b95909ff56fc15d804cecb8f7cc8d", func := "postillion/postillionlaw8.RecAll", spec := "recAll", unfollowed := true, recurses := true, apart := false }
def RecAllSaid : Prop := recAllRow.holds Try.pinned (OpenSpec.ofChange recAllSpec)

/-- ITS FALSE NEIGHBOUR: 'it returns false'. Refute it at one input. -/
def recAllWrong : ChangeSpec := { name := "recAll", fn := fun _ => fun
  | [d1, d2] => { results := [.lit (.bool false)], args := [d1, d2] }
  | _ => none }
def RecAllWrongFalsely : Prop := recAllRow.holds Try.pinned (OpenSpec.ofChange recAllWrong)

/-- 'postillionlaw8.RecAny': WHATEVER THE INPUT: true; the input reads as it did. -/
def recAnySpec : ChangeSpec := { name := "recAny", fn := fun _ => fun
  | [d1, d2, d3, d4, d5] => { results := [.lit (.bool true)], args := [d1, d2, d3, d4, d5] }
  | _ => none }
def recAnyRow : OpenClaim := { program := "ytgbogbjifpijkaa", sum := "ac0415beea9a2d23c8c41684f37b27699f6b95909ff56fc15d804cecb8f7cc8d", func := "postillion/postillionlaw8.RecAny", spec := "recAny", unfollowed := true, recurses := true, apart := false }
def RecAnySaid : Prop := recAnyRow.holds Try.pinned (OpenSpec.ofChange recAnySpec)

/-- ITS FALSE NEIGHBOUR: 'it returns false'. Refute it at one input. -/
def recAnyWrong : ChangeSpec := { name := "recAny", fn := fun _ => fun
  | [d1, d2, d3, d4, d5] => { results := [.lit (.bool false)], args := [d1, d2, d3, d4, d5] }
  | _ => none }
def RecAnyWrongFalsely : Prop := recAnyRow.holds Try.pinned (OpenSpec.ofChange recAnyWrong)

/-- 'postillionlaw8.RecOwn': WHATEVER THE INPUT: true; the input reads as it did. -/
def recOwnSpec : ChangeSpec := { name := "recOwn", fn := fun _ => fun
  | [d] => { results := [.lit (.bool true)], args := [d] }
  | _ => none }
def recOwnRow : OpenClaim := { program := "ytgbogbjifpijkaa", sum := "ac0415beea9a2d23c8c41684f37b27699f6b95909ff56fc15d804cecb8f7cc8d", func := "postillion/postillionlaw8.RecOwn", spec := "recOwn", unfollowed := true, recurses := true, apart := false }
def RecOwnSaid : Prop := recOwnRow.holds Try.pinned (OpenSpec.ofChange recOwnSpec)

/-- ITS FALSE NEIGHBOUR: 'it returns false'. Refute it at one input. -/
def recOwnWrong : ChangeSpec := { name := "recOwn", fn := fun _ => fun
  | [d] => { results := [.lit (.bool false)], args := [d] }
  | _ => none }
def RecOwnWrongFalsely : Prop := recOwnRow.holds Try.pinned (OpenSpec.ofChange recOwnWrong)

/-- 'postillionlaw8.KindEdges': WHATEVER THE INPUT: true; the input reads as it did. -/
def kindEdgesSpec : ChangeSpec := { name := "kindEdges", fn := fun _ => fun
  | [d1, d2] => { results := [.lit (.bool true)], args := [d1, d2] }
  | _ => none }
def kindEdgesRow : OpenClaim := { program := "ytgbogbjifpijkaa", sum := "ac0415beea9a2d23c8c41684f37b27699f6b95909ff56fc15d804cecb8f7cc8d", func := "postillion/postillionlaw8.KindEdges", spec := "kindEdges", unfollowed := true, recurses := true, apart := false }
def KindEdgesSaid : Prop := kindEdgesRow.holds Try.pinned (OpenSpec.ofChange kindEdgesSpec)

/-- ITS FALSE NEIGHBOUR: 'it returns false'. Refute it at one input. -/
def kindEdgesWrong : ChangeSpec := { name := "kindEdges", fn := fun _ => fun
  | [d1, d2] => { results := [.lit (.bool false)], args := [d1, d2] }
  | _ => none }
def KindEdgesWrongFalsely : Prop := kindEdgesRow.holds Try.pinned (OpenSpec.ofChange kindEdgesWrong)

/-- 'postillionlaw8.KindHomes': WHATEVER THE INPUT: true; the input reads as it did. -/
def kindHomesSpec : ChangeSpec := { name := "kindHomes", fn := fun _ => fun
  | [d1, d2, d3, d4] => { results := [.lit (.bool true)], args := [d1, d2, d3, d4] }
  | _ => none }
def kindHomesRow : OpenClaim := { program := "ytgbogbjifpijkaa", sum := "ac0415beea9a2d23c8c41684f37b27699f6b95909ff56fc15d804cecb8f7cc8d", func := "postillion/postillionlaw8.KindHomes", spec := "kindHomes", unfollowed := true, recurses := true, apart := false }
def KindHomesSaid : Prop := kindHomesRow.holds Try.pinned (OpenSpec.ofChange kindHomesSpec)

/-- ITS FALSE NEIGHBOUR: 'it returns false'. Refute it at one input. -/
def kindHomesWrong : ChangeSpec := { name := "kindHomes", fn := fun _ => fun
  | [d1, d2, d3, d4] => { results := [.lit (.bool false)], args := [d1, d2, d3, d4] }
  | _ => none }
def KindHomesWrongFalsely : Prop := kindHomesRow.holds Try.pinned (OpenSpec.ofChange kindHomesWrong)

/-- 'postillionlaw8.KindPackets': WHATEVER THE INPUT: true; the input reads as it did. -/
def kindPacketsSpec : ChangeSpec := { name := "kindPackets", fn := fun _ => fun
  | [d1, d2, d3] => { results := [.lit (.bool true)], args := [d1, d2, d3] }
  | _ => none }
def kindPacketsRow : OpenClaim := { program := "ytgbogbjifpijkaa", sum := "ac0415beea9a2d23c8c41684f37b27699f6b95909ff56fc15d804cecb8f7cc8d", func := "postillion/postillionlaw8.KindPackets", spec := "kindPackets", unfollowed := true, recurses := true, apart := false }
def KindPacketsSaid : Prop := kindPacketsRow.holds Try.pinned (OpenSpec.ofChange kindPacketsSpec)

/-- ITS FALSE NEIGHBOUR: 'it returns false'. Refute it at one input. -/
def kindPacketsWrong : ChangeSpec := { name := "kindPackets", fn := fun _ => fun
  | [d1, d2, d3] => { results := [.lit (.bool false)], args := [d1, d2, d3] }
  | _ => none }
def KindPacketsWrongFalsely : Prop := kindPacketsRow.holds Try.pinned (OpenSpec.ofChange kindPacketsWrong)

/-- 'postillionlaw8.RecParts': WHATEVER THE INPUT: true; the input reads as it did. -/
def recPartsSpec : ChangeSpec := { name := "recParts", fn := fun _ => fun
  | [d1, d2, d3] => { results := [.lit (.bool true)], args := [d1, d2, d3] }
  | _ => none }
def recPartsRow : OpenClaim := { program := "ytgbogbjifpijkaa", sum := "ac0415beea9a2d23c8c41684f37b27699f6b95909ff56fc15d804cecb8f7cc8d", func := "postillion/postillionlaw8.RecParts", spec := "recParts", unfollowed := true, recurses := true, apart := false }
def RecPartsSaid : Prop := recPartsRow.holds Try.pinned (OpenSpec.ofChange recPartsSpec)

/-- ITS FALSE NEIGHBOUR: 'it returns false'. Refute it at one input. -/
def recPartsWrong : ChangeSpec := { name := "recParts", fn := fun _ => fun
  | [d1, d2, d3] => { results := [.lit (.bool false)], args := [d1, d2, d3] }
  | _ => none }
def RecPartsWrongFalsely : Prop := recPartsRow.holds Try.pinned (OpenSpec.ofChange recPartsWrong)

/- THE SECOND FORM. 'bulk': how many values and letters a reading holds, each counted each time it is reached (what is shared counts as often as it is met; a slice's spare places count too). A statement '..UptoSaid' is the law's where the arguments, and the package variables that the reading takes, are together of bulk at most 1048576: NARROWER than '..Said'. Prove '..Said' where nothing that the law and all that it calls make is longer than what came in: it says more and counts as full. Else prove '..UptoSaid'. A law counts once. -/
mutual
def uptoBulk {H : Type} : DataW H → Nat
  | .lit (.string bytes) => bytes.length + 1
  | .lit _ => 1
  | .nil => 1
  | .ptr d => uptoBulk d + 1
  | .slice elems spare => uptoBulkAll elems + uptoBulkAll spare + 1
  | .agg parts => uptoBulkAll parts + 1
  | .iface _ d => uptoBulk d + 1
  | .map entries => uptoBulkEntries entries + 1
  | .held _ => 1
def uptoBulkAll {H : Type} : List (DataW H) → Nat
  | [] => 0
  | d :: r => uptoBulk d + uptoBulkAll r
def uptoBulkEntries {H : Type} : List (Lit × DataW H) → Nat
  | [] => 0
  | x :: r => uptoBulkEntry x + uptoBulkEntries r
def uptoBulkEntry {H : Type} : Lit × DataW H → Nat
  | (.string bytes, d) => bytes.length + uptoBulk d + 1
  | (_, d) => uptoBulk d + 1
 end
def uptoSmall : (H : Type) → List (DataW H) → Bool := fun _ ds => decide (uptoBulkAll ds ≤ 1048576)
def OpenSpec.upto (s : _root_.Go.ChangeSpec) : _root_.Go.OpenSpec := { _root_.Go.OpenSpec.ofChange s with cond := some uptoSmall }

/-- 'postillionlaw8.KindNames', WHERE WHAT IT READS IS OF BULK AT MOST 1048576: true; the input reads as it did. -/
def kindNamesUptoRow : OpenClaim := { program := "ytgbogbjifpijkaa", sum := "ac0415beea9a2d23c8c41684f37b27699f6b95909ff56fc15d804cecb8f7cc8d", func := "postillion/postillionlaw8.KindNames", spec := "kindNames", unfollowed := true, recurses := true, apart := false, narrowed := true }
def KindNamesUptoSaid : Prop := kindNamesUptoRow.holds Try.pinned (OpenSpec.upto kindNamesSpec)

/-- 'postillionlaw8.KindTids', WHERE WHAT IT READS IS OF BULK AT MOST 1048576: true; the input reads as it did. -/
def kindTidsUptoRow : OpenClaim := { program := "ytgbogbjifpijkaa", sum := "ac0415beea9a2d23c8c41684f37b27699f6b95909ff56fc15d804cecb8f7cc8d", func := "postillion/postillionlaw8.KindTids", spec := "kindTids", unfollowed := true, recurses := true, apart := false, narrowed := true }
def KindTidsUptoSaid : Prop := kindTidsUptoRow.holds Try.pinned (OpenSpec.upto kindTidsSpec)

/-- 'postillionlaw8.KindRecords', WHERE WHAT IT READS IS OF BULK AT MOST 1048576: true; the input reads as it did. -/
def kindRecordsUptoRow : OpenClaim := { program := "ytgbogbjifpijkaa", sum := "ac0415beea9a2d23c8c41684f37b27699f6b95909ff56fc15d804cecb8f7cc8d", func := "postillion/postillionlaw8.KindRecords", spec := "kindRecords", unfollowed := true, recurses := true, apart := false, narrowed := true }
def KindRecordsUptoSaid : Prop := kindRecordsUptoRow.holds Try.pinned (OpenSpec.upto kindRecordsSpec)

/-- 'postillionlaw8.KindTurn', WHERE WHAT IT READS IS OF BULK AT MOST 1048576: true; the input reads as it did. -/
def kindTurnUptoRow : OpenClaim := { program := "ytgbogbjifpijkaa", sum := "ac0415beea9a2d23c8c41684f37b27699f6b95909ff56fc15d804cecb8f7cc8d", func := "postillion/postillionlaw8.KindTurn", spec := "kindTurn", unfollowed := true, recurses := true, apart := false, narrowed := true }
def KindTurnUptoSaid : Prop := kindTurnUptoRow.holds Try.pinned (OpenSpec.upto kindTurnSpec)

/-- 'postillionlaw8.RecAll', WHERE WHAT IT READS IS OF BULK AT MOST 1048576: true; the input reads as it did. -/
def recAllUptoRow : OpenClaim := { program := "ytgbogbjifpijkaa", sum := "ac0415beea9a2d23c8c41684f37b27699f6b95909ff56fc15d804cecb8f7cc8d", func := "postillion/postillionlaw8.RecAll", spec := "recAll", unfollowed := true, recurses := true, apart := false, narrowed := true }
def RecAllUptoSaid : Prop := recAllUptoRow.holds Try.pinned (OpenSpec.upto recAllSpec)

/-- 'postillionlaw8.RecAny', WHERE WHAT IT READS IS OF BULK AT MOST 1048576: true; the input reads as it did. -/
def recAnyUptoRow : OpenClaim := { program := "ytgbogbjifpijkaa", sum := "ac0415beea9a2d23c8c41684f37b27699f6b95909ff56fc15d804cecb8f7cc8d", func := "postillion/postillionlaw8.RecAny", spec := "recAny", unfollowed := true, recurses := true, apart := false, narrowed := true }
def RecAnyUptoSaid : Prop := recAnyUptoRow.holds Try.pinned (OpenSpec.upto recAnySpec)

/-- 'postillionlaw8.RecOwn', WHERE WHAT IT READS IS OF BULK AT MOST 1048576: true; the input reads as it did. -/
def recOwnUptoRow : OpenClaim := { program := "ytgbogbjifpijkaa", sum := "ac0415beea9a2d23c8c41684f37b27699f6b95909ff56fc15d804cecb8f7cc8d", func := "postillion/postillionlaw8.RecOwn", spec := "recOwn", unfollowed := true, recurses := true, apart := false, narrowed := true }
def RecOwnUptoSaid : Prop := recOwnUptoRow.holds Try.pinned (OpenSpec.upto recOwnSpec)

/-- 'postillionlaw8.KindEdges', WHERE WHAT IT READS IS OF BULK AT MOST 1048576: true; the input reads as it did. -/
def kindEdgesUptoRow : OpenClaim := { program := "ytgbogbjifpijkaa", sum := "ac0415beea9a2d23c8c41684f37b27699f6b95909ff56fc15d804cecb8f7cc8d", func := "postillion/postillionlaw8.KindEdges", spec := "kindEdges", unfollowed := true, recurses := true, apart := false, narrowed := true }
def KindEdgesUptoSaid : Prop := kindEdgesUptoRow.holds Try.pinned (OpenSpec.upto kindEdgesSpec)

/-- 'postillionlaw8.KindHomes', WHERE WHAT IT READS IS OF BULK AT MOST 1048576: true; the input reads as it did. -/
def kindHomesUptoRow : OpenClaim := { program := "ytgbogbjifpijkaa", sum := "ac0415beea9a2d23c8c41684f37b27699f6b95909ff56fc15d804cecb8f7cc8d", func := "postillion/postillionlaw8.KindHomes", spec := "kindHomes", unfollowed := true, recurses := true, apart := false, narrowed := true }
def KindHomesUptoSaid : Prop := kindHomesUptoRow.holds Try.pinned (OpenSpec.upto kindHomesSpec)

/-- 'postillionlaw8.KindPackets', WHERE WHAT IT READS IS OF BULK AT MOST 1048576: true; the input reads as it did. -/
def kindPacketsUptoRow : OpenClaim := { program := "ytgbogbjifpijkaa", sum := "ac0415beea9a2d23c8c41684f37b27699f6b95909ff56fc15d804cecb8f7cc8d", func := "postillion/postillionlaw8.KindPackets", spec := "kindPackets", unfollowed := true, recurses := true, apart := false, narrowed := true }
def KindPacketsUptoSaid : Prop := kindPacketsUptoRow.holds Try.pinned (OpenSpec.upto kindPacketsSpec)

/-- 'postillionlaw8.RecParts', WHERE WHAT IT READS IS OF BULK AT MOST 1048576: true; the input reads as it did. -/
def recPartsUptoRow : OpenClaim := { program := "ytgbogbjifpijkaa", sum := "ac0415beea9a2d23c8c41684f37b27699f6b95909ff56fc15d804cecb8f7cc8d", func := "postillion/postillionlaw8.RecParts", spec := "recParts", unfollowed := true, recurses := true, apart := false, narrowed := true }
def RecPartsUptoSaid : Prop := recPartsUptoRow.holds Try.pinned (OpenSpec.upto recPartsSpec)

end Rows
end Go.Proofs.Ytgbogbjifpijkaa
