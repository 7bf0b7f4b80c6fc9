/-
  No cell of these rows narrows 'for every input' (looked for: loops, veiled, ifaces, maps, wideKeys, modest, calm, conditions, laid).
  DERIVED. THE GIVEN ROWS OF THIS SEAT. 13 by the template 'for every input the law returns true; each argument reads behind the call as it read before'; 0 by the template 'total and deterministic' (their statements: YtdipknkajmoldaaTotals.lean).
  GIVEN WITH THE SEED: the statements are not yours to turn. If you find one false, say at which input.
  Laid BY PROGRAM, IN A SANDBOX (cutbox-rows.mjs): the forced cells as the released guide's own fill.sh prints them over the translation cbf9e0234a9776d0… (all of the seat's roots in one cut). By AI agents, Wed Nov 11 2026. No macro, syntax, notation, axiom, sorry.
-/
import Derived.Test.YtdipknkajmoldaaChecked
import GoSem.Claim
import GoSem.ClaimJoined
import GoSem.ClaimMapViews
import Derived.JoinedTies
import Derived.KernelRfl
namespace Go.Proofs.Ytdipknkajmoldaa
/- THE CELL 'sum', in the pinned program and in every row, IS THE sha256 OF THE DUMP (.gsa) THAT YtdipknkajmoldaaProg.lean LOADS. Nothing in Lean hashes anything: it is a label: what it is worth is what the hold of that sum in a sandbox is worth. -/
noncomputable def Try.pinned : Pinned := { name := "ytdipknkajmoldaa", sum := "cbf9e0234a9776d0f5fe133321f2d030135e8724564b5a125aaa4af4c16c5857", checked := Try.checked }
namespace Rows
def none {H : Type} : Left H := { results := [], args := [] }

/-- 'postillionlaw1.ByteAll': WHATEVER THE INPUT: true; the input reads as it did. -/
def byteAllSpec : ChangeSpec := { name := "byteAll", fn := fun _ => fun
  | [d] => { results := [.lit (.bool true)], args := [d] }
  | _ => none }
def byteAllRow : OpenClaim := { program := "ytdipknkajmoldaa", sum := "cbf9e0234a9776d0f5fe133321f2d030135e8724564b5a125aaa4af4c16c5857", func := "postillion/postillionlaw1.ByteAll", spec := "byteAll", apart := false }
def ByteAllSaid : Prop := byteAllRow.holds Try.pinned (OpenSpec.ofChange byteAllSpec)

/-- ITS FALSE NEIGHBOUR: 'it returns false'. Refute it at one input. -/
def byteAllWrong : ChangeSpec := { name := "byteAll", fn := fun _ => fun
  | [d] => { results := [.lit (.bool false)], args := [d] }
  | _ => none }
def ByteAllWrongFalsely : Prop := byteAllRow.holds Try.pinned (OpenSpec.ofChange byteAllWrong)

/-- 'postillionlaw1.ByteAny': WHATEVER THE INPUT: true; the input reads as it did. -/
def byteAnySpec : ChangeSpec := { name := "byteAny", fn := fun _ => fun
  | [d1, d2] => { results := [.lit (.bool true)], args := [d1, d2] }
  | _ => none }
def byteAnyRow : OpenClaim := { program := "ytdipknkajmoldaa", sum := "cbf9e0234a9776d0f5fe133321f2d030135e8724564b5a125aaa4af4c16c5857", func := "postillion/postillionlaw1.ByteAny", spec := "byteAny", apart := false }
def ByteAnySaid : Prop := byteAnyRow.holds Try.pinned (OpenSpec.ofChange byteAnySpec)

/-- ITS FALSE NEIGHBOUR: 'it returns false'. Refute it at one input. -/
def byteAnyWrong : ChangeSpec := { name := "byteAny", fn := fun _ => fun
  | [d1, d2] => { results := [.lit (.bool false)], args := [d1, d2] }
  | _ => none }
def ByteAnyWrongFalsely : Prop := byteAnyRow.holds Try.pinned (OpenSpec.ofChange byteAnyWrong)

/-- 'postillionlaw1.ByteEdges': WHATEVER THE INPUT: true; the input reads as it did. -/
def byteEdgesSpec : ChangeSpec := { name := "byteEdges", fn := fun _ => fun
  | [d1, d2, d3] => { results := [.lit (.bool true)], args := [d1, d2, d3] }
  | _ => none }
def byteEdgesRow : OpenClaim := { program := "ytdipknkajmoldaa", sum := "cbf9e0234a9776d0f5fe133321f2d030135e8724564b5a125aaa4af4c16c5857", func := "postillion/postillionlaw1.ByteEdges", spec := "byteEdges", apart := false }
def ByteEdgesSaid : Prop := byteEdgesRow.holds Try.pinned (OpenSpec.ofChange byteEdgesSpec)

/-- ITS FALSE NEIGHBOUR: 'it returns false'. Refute it at one input. -/
def byteEdgesWrong : ChangeSpec := { name := "byteEdges", fn := fun _ => fun
  | [d1, d2, d3] => { results := [.lit (.bool false)], args := [d1, d2, d3] }
  | _ => none }
def ByteEdgesWrongFalsely : Prop := byteEdgesRow.holds Try.pinned (OpenSpec.ofChange byteEdgesWrong)

/-- 'postillionlaw1.ByteNone': WHATEVER THE INPUT: true; the input reads as it did. -/
def byteNoneSpec : ChangeSpec := { name := "byteNone", fn := fun _ => fun
  | [] => { results := [.lit (.bool true)], args := [] }
  | _ => none }
def byteNoneRow : OpenClaim := { program := "ytdipknkajmoldaa", sum := "cbf9e0234a9776d0f5fe133321f2d030135e8724564b5a125aaa4af4c16c5857", func := "postillion/postillionlaw1.ByteNone", spec := "byteNone", apart := false }
def ByteNoneSaid : Prop := byteNoneRow.holds Try.pinned (OpenSpec.ofChange byteNoneSpec)

/-- ITS FALSE NEIGHBOUR: 'it returns false'. Refute it at one input. -/
def byteNoneWrong : ChangeSpec := { name := "byteNone", fn := fun _ => fun
  | [] => { results := [.lit (.bool false)], args := [] }
  | _ => none }
def ByteNoneWrongFalsely : Prop := byteNoneRow.holds Try.pinned (OpenSpec.ofChange byteNoneWrong)

/-- 'postillionlaw1.SumAll': WHATEVER THE INPUT: true; the input reads as it did. -/
def sumAllSpec : ChangeSpec := { name := "sumAll", fn := fun _ => fun
  | [d1, d2] => { results := [.lit (.bool true)], args := [d1, d2] }
  | _ => none }
def sumAllRow : OpenClaim := { program := "ytdipknkajmoldaa", sum := "cbf9e0234a9776d0f5fe133321f2d030135e8724564b5a125aaa4af4c16c5857", func := "postillion/postillionlaw1.SumAll", spec := "sumAll", apart := false }
def SumAllSaid : Prop := sumAllRow.holds Try.pinned (OpenSpec.ofChange sumAllSpec)

/-- ITS FALSE NEIGHBOUR: 'it returns false'. Refute it at one input. -/
def sumAllWrong : ChangeSpec := { name := "sumAll", fn := fun _ => fun
  | [d1, d2] => { results := [.lit (.bool false)], args := [d1, d2] }
  | _ => none }
def SumAllWrongFalsely : Prop := sumAllRow.holds Try.pinned (OpenSpec.ofChange sumAllWrong)

/-- 'postillionlaw1.SumTurn': WHATEVER THE INPUT: true; the input reads as it did. -/
def sumTurnSpec : ChangeSpec := { name := "sumTurn", fn := fun _ => fun
  | [d1, d2, d3] => { results := [.lit (.bool true)], args := [d1, d2, d3] }
  | _ => none }
def sumTurnRow : OpenClaim := { program := "ytdipknkajmoldaa", sum := "cbf9e0234a9776d0f5fe133321f2d030135e8724564b5a125aaa4af4c16c5857", func := "postillion/postillionlaw1.SumTurn", spec := "sumTurn", apart := false }
def SumTurnSaid : Prop := sumTurnRow.holds Try.pinned (OpenSpec.ofChange sumTurnSpec)

/-- ITS FALSE NEIGHBOUR: 'it returns false'. Refute it at one input. -/
def sumTurnWrong : ChangeSpec := { name := "sumTurn", fn := fun _ => fun
  | [d1, d2, d3] => { results := [.lit (.bool false)], args := [d1, d2, d3] }
  | _ => none }
def SumTurnWrongFalsely : Prop := sumTurnRow.holds Try.pinned (OpenSpec.ofChange sumTurnWrong)

/-- 'postillionlaw1.SumLine': WHATEVER THE INPUT: true; the input reads as it did. -/
def sumLineSpec : ChangeSpec := { name := "sumLine", fn := fun _ => fun
  | [d1, d2, d3] => { results := [.lit (.bool true)], args := [d1, d2, d3] }
  | _ => none }
def sumLineRow : OpenClaim := { program := "ytdipknkajmoldaa", sum := "cbf9e0234a9776d0f5fe133321f2d030135e8724564b5a125aaa4af4c16c5857", func := "postillion/postillionlaw1.SumLine", spec := "sumLine", apart := false }
def SumLineSaid : Prop := sumLineRow.holds Try.pinned (OpenSpec.ofChange sumLineSpec)

/-- ITS FALSE NEIGHBOUR: 'it returns false'. Refute it at one input. -/
def sumLineWrong : ChangeSpec := { name := "sumLine", fn := fun _ => fun
  | [d1, d2, d3] => { results := [.lit (.bool false)], args := [d1, d2, d3] }
  | _ => none }
def SumLineWrongFalsely : Prop := sumLineRow.holds Try.pinned (OpenSpec.ofChange sumLineWrong)

/-- 'postillionlaw1.ByteParts': WHATEVER THE INPUT: true; the input reads as it did. -/
def bytePartsSpec : ChangeSpec := { name := "byteParts", fn := fun _ => fun
  | [d1, d2] => { results := [.lit (.bool true)], args := [d1, d2] }
  | _ => none }
def bytePartsRow : OpenClaim := { program := "ytdipknkajmoldaa", sum := "cbf9e0234a9776d0f5fe133321f2d030135e8724564b5a125aaa4af4c16c5857", func := "postillion/postillionlaw1.ByteParts", spec := "byteParts", apart := false }
def BytePartsSaid : Prop := bytePartsRow.holds Try.pinned (OpenSpec.ofChange bytePartsSpec)

/-- ITS FALSE NEIGHBOUR: 'it returns false'. Refute it at one input. -/
def bytePartsWrong : ChangeSpec := { name := "byteParts", fn := fun _ => fun
  | [d1, d2] => { results := [.lit (.bool false)], args := [d1, d2] }
  | _ => none }
def BytePartsWrongFalsely : Prop := bytePartsRow.holds Try.pinned (OpenSpec.ofChange bytePartsWrong)

/-- 'postillionlaw1.ByteCut': WHATEVER THE INPUT: true; the input reads as it did. -/
def byteCutSpec : ChangeSpec := { name := "byteCut", fn := fun _ => fun
  | [d1, d2] => { results := [.lit (.bool true)], args := [d1, d2] }
  | _ => none }
def byteCutRow : OpenClaim := { program := "ytdipknkajmoldaa", sum := "cbf9e0234a9776d0f5fe133321f2d030135e8724564b5a125aaa4af4c16c5857", func := "postillion/postillionlaw1.ByteCut", spec := "byteCut", apart := false }
def ByteCutSaid : Prop := byteCutRow.holds Try.pinned (OpenSpec.ofChange byteCutSpec)

/-- ITS FALSE NEIGHBOUR: 'it returns false'. Refute it at one input. -/
def byteCutWrong : ChangeSpec := { name := "byteCut", fn := fun _ => fun
  | [d1, d2] => { results := [.lit (.bool false)], args := [d1, d2] }
  | _ => none }
def ByteCutWrongFalsely : Prop := byteCutRow.holds Try.pinned (OpenSpec.ofChange byteCutWrong)

/-- 'postillionlaw1.ByteSmall': WHATEVER THE INPUT: true; the input reads as it did. -/
def byteSmallSpec : ChangeSpec := { name := "byteSmall", fn := fun _ => fun
  | [d] => { results := [.lit (.bool true)], args := [d] }
  | _ => none }
def byteSmallRow : OpenClaim := { program := "ytdipknkajmoldaa", sum := "cbf9e0234a9776d0f5fe133321f2d030135e8724564b5a125aaa4af4c16c5857", func := "postillion/postillionlaw1.ByteSmall", spec := "byteSmall", apart := false }
def ByteSmallSaid : Prop := byteSmallRow.holds Try.pinned (OpenSpec.ofChange byteSmallSpec)

/-- ITS FALSE NEIGHBOUR: 'it returns false'. Refute it at one input. -/
def byteSmallWrong : ChangeSpec := { name := "byteSmall", fn := fun _ => fun
  | [d] => { results := [.lit (.bool false)], args := [d] }
  | _ => none }
def ByteSmallWrongFalsely : Prop := byteSmallRow.holds Try.pinned (OpenSpec.ofChange byteSmallWrong)

/-- 'postillionlaw1.ByteTruth': WHATEVER THE INPUT: true; the input reads as it did. -/
def byteTruthSpec : ChangeSpec := { name := "byteTruth", fn := fun _ => fun
  | [d] => { results := [.lit (.bool true)], args := [d] }
  | _ => none }
def byteTruthRow : OpenClaim := { program := "ytdipknkajmoldaa", sum := "cbf9e0234a9776d0f5fe133321f2d030135e8724564b5a125aaa4af4c16c5857", func := "postillion/postillionlaw1.ByteTruth", spec := "byteTruth", apart := false }
def ByteTruthSaid : Prop := byteTruthRow.holds Try.pinned (OpenSpec.ofChange byteTruthSpec)

/-- ITS FALSE NEIGHBOUR: 'it returns false'. Refute it at one input. -/
def byteTruthWrong : ChangeSpec := { name := "byteTruth", fn := fun _ => fun
  | [d] => { results := [.lit (.bool false)], args := [d] }
  | _ => none }
def ByteTruthWrongFalsely : Prop := byteTruthRow.holds Try.pinned (OpenSpec.ofChange byteTruthWrong)

/-- 'postillionlaw1.SumParts': WHATEVER THE INPUT: true; the input reads as it did. -/
def sumPartsSpec : ChangeSpec := { name := "sumParts", fn := fun _ => fun
  | [d1, d2, d3] => { results := [.lit (.bool true)], args := [d1, d2, d3] }
  | _ => none }
def sumPartsRow : OpenClaim := { program := "ytdipknkajmoldaa", sum := "cbf9e0234a9776d0f5fe133321f2d030135e8724564b5a125aaa4af4c16c5857", func := "postillion/postillionlaw1.SumParts", spec := "sumParts", apart := false }
def SumPartsSaid : Prop := sumPartsRow.holds Try.pinned (OpenSpec.ofChange sumPartsSpec)

/-- ITS FALSE NEIGHBOUR: 'it returns false'. Refute it at one input. -/
def sumPartsWrong : ChangeSpec := { name := "sumParts", fn := fun _ => fun
  | [d1, d2, d3] => { results := [.lit (.bool false)], args := [d1, d2, d3] }
  | _ => none }
def SumPartsWrongFalsely : Prop := sumPartsRow.holds Try.pinned (OpenSpec.ofChange sumPartsWrong)

/-- 'postillionlaw1.SumByte': WHATEVER THE INPUT: true; the input reads as it did. -/
def sumByteSpec : ChangeSpec := { name := "sumByte", fn := fun _ => fun
  | [d1, d2] => { results := [.lit (.bool true)], args := [d1, d2] }
  | _ => none }
def sumByteRow : OpenClaim := { program := "ytdipknkajmoldaa", sum := "cbf9e0234a9776d0f5fe133321f2d030135e8724564b5a125aaa4af4c16c5857", func := "postillion/postillionlaw1.SumByte", spec := "sumByte", apart := false }
def SumByteSaid : Prop := sumByteRow.holds Try.pinned (OpenSpec.ofChange sumByteSpec)

/-- ITS FALSE NEIGHBOUR: 'it returns false'. Refute it at one input. -/
def sumByteWrong : ChangeSpec := { name := "sumByte", fn := fun _ => fun
  | [d1, d2] => { results := [.lit (.bool false)], args := [d1, d2] }
  | _ => none }
def SumByteWrongFalsely : Prop := sumByteRow.holds Try.pinned (OpenSpec.ofChange sumByteWrong)

/- THE SECOND FORM. 'bulk': how many values and letters a reading holds, each counted each time it is reached (what is shared counts as often as it is met; a slice's spare places count too). A statement '..UptoSaid' is the law's where the arguments, and the package variables that the reading takes, are together of bulk at most 1048576: NARROWER than '..Said'. Prove '..Said' where nothing that the law and all that it calls make is longer than what came in: it says more and counts as full. Else prove '..UptoSaid'. A law counts once. -/
mutual
def uptoBulk {H : Type} : DataW H → Nat
  | .lit (.string bytes) => bytes.length + 1
  | .lit _ => 1
  | .nil => 1
  | .ptr d => uptoBulk d + 1
  | .slice elems spare => uptoBulkAll elems + uptoBulkAll spare + 1
  | .agg parts => uptoBulkAll parts + 1
  | .iface _ d => uptoBulk d + 1
  | .map entries => uptoBulkEntries entries + 1
  | .held _ => 1
def uptoBulkAll {H : Type} : List (DataW H) → Nat
  | [] => 0
  | d :: r => uptoBulk d + uptoBulkAll r
def uptoBulkEntries {H : Type} : List (Lit × DataW H) → Nat
  | [] => 0
  | x :: r => uptoBulkEntry x + uptoBulkEntries r
def uptoBulkEntry {H : Type} : Lit × DataW H → Nat
  | (.string bytes, d) => bytes.length + uptoBulk d + 1
  | (_, d) => uptoBulk d + 1
 end
def uptoSmall : (H : Type) → List (DataW H) → Bool := fun _ ds => decide (uptoBulkAll ds ≤ 1048576)
def OpenSpec.upto (s : _root_.Go.ChangeSpec) : _root_.Go.OpenSpec := { _root_.Go.OpenSpec.ofChange s with cond := some uptoSmall }

/-- 'postillionlaw1.ByteAll', WHERE WHAT IT READS IS OF BULK AT MOST 1048576: true; the input reads as it did. -/
def byteAllUptoRow : OpenClaim := { program := "ytdipknkajmoldaa", sum := "cbf9e0234a9776d0f5fe133321f2d030135e8724564b5a125aaa4af4c16c5857", func := "postillion/postillionlaw1.ByteAll", spec := "byteAll", apart := false, narrowed := true }
def ByteAllUptoSaid : Prop := byteAllUptoRow.holds Try.pinned (OpenSpec.upto byteAllSpec)

/-- 'postillionlaw1.ByteAny', WHERE WHAT IT READS IS OF BULK AT MOST 1048576: true; the input reads as it did. -/
def byteAnyUptoRow : OpenClaim := { program := "ytdipknkajmoldaa", sum := "cbf9e0234a9776d0f5fe133321f2d030135e8724564b5a125aaa4af4c16c5857", func := "postillion/postillionlaw1.ByteAny", spec := "byteAny", apart := false, narrowed := true }
def ByteAnyUptoSaid : Prop := byteAnyUptoRow.holds Try.pinned (OpenSpec.upto byteAnySpec)

/-- 'postillionlaw1.ByteEdges', WHERE WHAT IT READS IS OF BULK AT MOST 1048576: true; the input reads as it did. -/
def byteEdgesUptoRow : OpenClaim := { program := "ytdipknkajmoldaa", sum := "cbf9e0234a9776d0f5fe133321f2d030135e8724564b5a125aaa4af4c16c5857", func := "postillion/postillionlaw1.ByteEdges", spec := "byteEdges", apart := false, narrowed := true }
def ByteEdgesUptoSaid : Prop := byteEdgesUptoRow.holds Try.pinned (OpenSpec.upto byteEdgesSpec)

/-- 'postillionlaw1.ByteNone', WHERE WHAT IT READS IS OF BULK AT MOST 1048576: true; the input reads as it did. -/
def byteNoneUptoRow : OpenClaim := { program := "ytdipknkajmoldaa", sum := "cbf9e0234a9776d0f5fe133321f2d030135e8724564b5a125aaa4af4c16c5857", func := "postillion/postillionlaw1.ByteNone", spec := "byteNone", apart := false, narrowed := true }
def ByteNoneUptoSaid : Prop := byteNoneUptoRow.holds Try.pinned (OpenSpec.upto byteNoneSpec)

/-- 'postillionlaw1.SumAll', WHERE WHAT IT READS IS OF BULK AT MOST 1048576: true; the input reads as it did. -/
def sumAllUptoRow : OpenClaim := { program := "ytdipknkajmoldaa", sum := "cbf9e0234a9776d0f5fe133321f2d030135e8724564b5a125aaa4af4c16c5857", func := "postillion/postillionlaw1.SumAll", spec := "sumAll", apart := false, narrowed := true }
def SumAllUptoSaid : Prop := sumAllUptoRow.holds Try.pinned (OpenSpec.upto sumAllSpec)

/-- 'postillionlaw1.SumTurn', WHERE WHAT IT READS IS OF BULK AT MOST 1048576: true; the input reads as it did. -/
def sumTurnUptoRow : OpenClaim := { program := "ytdipknkajmoldaa", sum := "cbf9e0234a9776d0f5fe133321f2d030135e8724564b5a125aaa4af4c16c5857", func := "postillion/postillionlaw1.SumTurn", spec := "sumTurn", apart := false, narrowed := true }
def SumTurnUptoSaid : Prop := sumTurnUptoRow.holds Try.pinned (OpenSpec.upto sumTurnSpec)

/-- 'postillionlaw1.SumLine', WHERE WHAT IT READS IS OF BULK AT MOST 1048576: true; the input reads as it did. -/
def sumLineUptoRow : OpenClaim := { program := "ytdipknkajmoldaa", sum := "cbf9e0234a9776d0f5fe133321f2d030135e8724564b5a125aaa4af4c16c5857", func := "postillion/postillionlaw1.SumLine", spec := "sumLine", apart := false, narrowed := true }
def SumLineUptoSaid : Prop := sumLineUptoRow.holds Try.pinned (OpenSpec.upto sumLineSpec)

/-- 'postillionlaw1.ByteParts', WHERE WHAT IT READS IS OF BULK AT MOST 1048576: true; the input reads as it did. -/
def bytePartsUptoRow : OpenClaim := { program := "ytdipknkajmoldaa", sum := "cbf9e0234a9776d0f5fe133321f2d030135e8724564b5a125aaa4af4c16c5857", func := "postillion/postillionlaw1.ByteParts", spec := "byteParts", apart := false, narrowed := true }
def BytePartsUptoSaid : Prop := bytePartsUptoRow.holds Try.pinned (OpenSpec.upto bytePartsSpec)

/-- 'postillionlaw1.ByteCut', WHERE WHAT IT READS IS OF BULK AT MOST 1048576: true; the input reads as it did. -/
def byteCutUptoRow : OpenClaim := { program := "ytdipknkajmoldaa", sum := "cbf9e0234a9776d0f5fe133321f2d030135e8724564b5a125aaa4af4c16c5857", func := "postillion/postillionlaw1.ByteCut", spec := "byteCut", apart := false, narrowed := true }
def ByteCutUptoSaid : Prop := byteCutUptoRow.holds Try.pinned (OpenSpec.upto byteCutSpec)

/-- 'postillionlaw1.ByteSmall', WHERE WHAT IT READS IS OF BULK AT MOST 1048576: true; the input reads as it did. -/
def byteSmallUptoRow : OpenClaim := { program := "ytdipknkajmoldaa", sum := "cbf9e0234a9776d0f5fe133321f2d030135e8724564b5a125aaa4af4c16c5857", func := "postillion/postillionlaw1.ByteSmall", spec := "byteSmall", apart := false, narrowed := true }
def ByteSmallUptoSaid : Prop := byteSmallUptoRow.holds Try.pinned (OpenSpec.upto byteSmallSpec)

/-- 'postillionlaw1.ByteTruth', WHERE WHAT IT READS IS OF BULK AT MOST 1048576: true; the input reads as it did. -/
def byteTruthUptoRow : OpenClaim := { program := "ytdipknkajmoldaa", sum := "cbf9e0234a9776d0f5fe133321f2d030135e8724564b5a125aaa4af4c16c5857", func := "postillion/postillionlaw1.ByteTruth", spec := "byteTruth", apart := false, narrowed := true }
def ByteTruthUptoSaid : Prop := byteTruthUptoRow.holds Try.pinned (OpenSpec.upto byteTruthSpec)

/-- 'postillionlaw1.SumParts', WHERE WHAT IT READS IS OF BULK AT MOST 1048576: true; the input reads as it did. -/
def sumPartsUptoRow : OpenClaim := { program := "ytdipknkajmoldaa", sum := "cbf9e0234a9776d0f5fe133321f2d030135e8724564b5a125aaa4af4c16c5857", func := "postillion/postillionlaw1.SumParts", spec := "sumParts", apart := false, narrowed := true }
def SumPartsUptoSaid : Prop := sumPartsUptoRow.holds Try.pinned (OpenSpec.upto sumPartsSpec)

/-- 'postillionlaw1.SumByte', WHERE WHAT IT READS IS OF BULK AT MOST 1048576: true; the input reads as it did. -/
def sumByteUptoRow : OpenClaim := { program := "ytdipknkajmoldaa", sum := "cbf9e0234a9776d0f5fe133321f2d030135e8724564b5a125aaa4af4c16c5857", func := "postillion/postillionlaw1.SumByte", spec := "sumByte", apart := false, narrowed := true }
def SumByteUptoSaid : Prop := sumByteUptoRow.holds Try.pinned (OpenSpec.upto sumByteSpec)

end Rows
end Go.Proofs.Ytdipknkajmoldaa
