/-
  No cell of these rows narrows 'for every input' (looked for: loops, veiled, ifaces, maps, wideKeys, modest, calm, conditions, laid).
  DERIVED. THE GIVEN ROWS OF THIS SEAT. 9 by the template 'for every input the law returns true; each argument reads behind the call as it read before'; 0 by the template 'total and deterministic' (their statements: YtidpfkehmokdfaaTotals.lean).
  GIVEN WITH THE SEED: the statements are not yours to turn. If you find one false, say at which input.
  Laid BY PROGRAM, IN A SANDBOX (cutbox-rows.mjs): the forced cells as the released guide's own fill.sh prints them over the translation 7acbb026b87fbd3c… (all of the seat's roots in one cut). By AI agents, Wed Nov 11 2026. No macro, syntax, notation, axiom, sorry.
-/
import Derived.Test.YtidpfkehmokdfaaChecked
import GoSem.Claim
import GoSem.ClaimJoined
import GoSem.ClaimMapViews
import Derived.JoinedTies
import Derived.KernelRfl
namespace Go.Proofs.Ytidpfkehmokdfaa
/- THE CELL 'sum', in the pinned program and in every row, IS THE sha256 OF THE DUMP (.gsa) THAT YtidpfkehmokdfaaProg.lean LOADS. Nothing in Lean hashes anything: it is a label: what it is worth is what the hold of that sum in a sandbox is worth. -/
noncomputable def Try.pinned : Pinned := { name := "ytidpfkehmokdfaa", sum := "7acbb026b87fbd3c5261df286cc6e94ad0fb74ff85f576f1058aba05a7e58dd5", checked := Try.checked }
namespace Rows
def none {H : Type} : Left H := { results := [], args := [] }

/-- 'postillionlaw6.BagOrder': WHATEVER THE INPUT: true; the input reads as it did. -/
def bagOrderSpec : ChangeSpec := { name := "bagOrder", fn := fun _ => fun
  | [d1, d2] => { results := [.lit (.bool true)], args := [d1, d2] }
  | _ => none }
def bagOrderRow : OpenClaim := { program := "ytidpfkehmokdfaa", sum := "7acbb026b87fbd3c5261df286cc6e94ad0fb74ff85f576f1058aba05a7e58dd5", func := "postillion/postillionlaw6.BagOrder", spec := "bagOrder", inPlace := ["slices.overlaps[postillion/bag.some[string]]", "slices.overlaps[postillion/bag.some[int]]"], unfollowed := true, recurses := true, apart := false }
def BagOrderSaid : Prop := bagOrderRow.holds Try.pinned (OpenSpec.ofChange bagOrderSpec)

/-- ITS FALSE NEIGHBOUR: 'it returns false'. Refute it at one input. -/
def bagOrderWrong : ChangeSpec := { name := "bagOrder", fn := fun _ => fun
  | [d1, d2] => { results := [.lit (.bool false)], args := [d1, d2] }
  | _ => none }
def BagOrderWrongFalsely : Prop := bagOrderRow.holds Try.pinned (OpenSpec.ofChange bagOrderWrong)

/-- 'postillionlaw6.TimerAll': WHATEVER THE INPUT: true; the input reads as it did. -/
def timerAllSpec : ChangeSpec := { name := "timerAll", fn := fun _ => fun
  | [d1, d2] => { results := [.lit (.bool true)], args := [d1, d2] }
  | _ => none }
def timerAllRow : OpenClaim := { program := "ytidpfkehmokdfaa", sum := "7acbb026b87fbd3c5261df286cc6e94ad0fb74ff85f576f1058aba05a7e58dd5", func := "postillion/postillionlaw6.TimerAll", spec := "timerAll", inPlace := ["slices.overlaps[postillion/bag.some[string]]"], unfollowed := true, recurses := true, apart := false }
def TimerAllSaid : Prop := timerAllRow.holds Try.pinned (OpenSpec.ofChange timerAllSpec)

/-- ITS FALSE NEIGHBOUR: 'it returns false'. Refute it at one input. -/
def timerAllWrong : ChangeSpec := { name := "timerAll", fn := fun _ => fun
  | [d1, d2] => { results := [.lit (.bool false)], args := [d1, d2] }
  | _ => none }
def TimerAllWrongFalsely : Prop := timerAllRow.holds Try.pinned (OpenSpec.ofChange timerAllWrong)

/-- 'postillionlaw6.TimerLate': WHATEVER THE INPUT: true; the input reads as it did. -/
def timerLateSpec : ChangeSpec := { name := "timerLate", fn := fun _ => fun
  | [d1, d2] => { results := [.lit (.bool true)], args := [d1, d2] }
  | _ => none }
def timerLateRow : OpenClaim := { program := "ytidpfkehmokdfaa", sum := "7acbb026b87fbd3c5261df286cc6e94ad0fb74ff85f576f1058aba05a7e58dd5", func := "postillion/postillionlaw6.TimerLate", spec := "timerLate", inPlace := ["slices.overlaps[postillion/bag.some[string]]"], unfollowed := true, recurses := true, apart := false }
def TimerLateSaid : Prop := timerLateRow.holds Try.pinned (OpenSpec.ofChange timerLateSpec)

/-- ITS FALSE NEIGHBOUR: 'it returns false'. Refute it at one input. -/
def timerLateWrong : ChangeSpec := { name := "timerLate", fn := fun _ => fun
  | [d1, d2] => { results := [.lit (.bool false)], args := [d1, d2] }
  | _ => none }
def TimerLateWrongFalsely : Prop := timerLateRow.holds Try.pinned (OpenSpec.ofChange timerLateWrong)

/-- 'postillionlaw6.TimerAges': WHATEVER THE INPUT: true; the input reads as it did. -/
def timerAgesSpec : ChangeSpec := { name := "timerAges", fn := fun _ => fun
  | [d1, d2] => { results := [.lit (.bool true)], args := [d1, d2] }
  | _ => none }
def timerAgesRow : OpenClaim := { program := "ytidpfkehmokdfaa", sum := "7acbb026b87fbd3c5261df286cc6e94ad0fb74ff85f576f1058aba05a7e58dd5", func := "postillion/postillionlaw6.TimerAges", spec := "timerAges", inPlace := ["slices.overlaps[postillion/bag.some[string]]"], unfollowed := true, recurses := true, apart := false }
def TimerAgesSaid : Prop := timerAgesRow.holds Try.pinned (OpenSpec.ofChange timerAgesSpec)

/-- ITS FALSE NEIGHBOUR: 'it returns false'. Refute it at one input. -/
def timerAgesWrong : ChangeSpec := { name := "timerAges", fn := fun _ => fun
  | [d1, d2] => { results := [.lit (.bool false)], args := [d1, d2] }
  | _ => none }
def TimerAgesWrongFalsely : Prop := timerAgesRow.holds Try.pinned (OpenSpec.ofChange timerAgesWrong)

/-- 'postillionlaw6.TimerGone': WHATEVER THE INPUT: true; the input reads as it did. -/
def timerGoneSpec : ChangeSpec := { name := "timerGone", fn := fun _ => fun
  | [d] => { results := [.lit (.bool true)], args := [d] }
  | _ => none }
def timerGoneRow : OpenClaim := { program := "ytidpfkehmokdfaa", sum := "7acbb026b87fbd3c5261df286cc6e94ad0fb74ff85f576f1058aba05a7e58dd5", func := "postillion/postillionlaw6.TimerGone", spec := "timerGone", inPlace := ["slices.overlaps[postillion/bag.some[string]]"], unfollowed := true, recurses := true, apart := false }
def TimerGoneSaid : Prop := timerGoneRow.holds Try.pinned (OpenSpec.ofChange timerGoneSpec)

/-- ITS FALSE NEIGHBOUR: 'it returns false'. Refute it at one input. -/
def timerGoneWrong : ChangeSpec := { name := "timerGone", fn := fun _ => fun
  | [d] => { results := [.lit (.bool false)], args := [d] }
  | _ => none }
def TimerGoneWrongFalsely : Prop := timerGoneRow.holds Try.pinned (OpenSpec.ofChange timerGoneWrong)

/-- 'postillionlaw6.BagCounts': WHATEVER THE INPUT: true; the input reads as it did. -/
def bagCountsSpec : ChangeSpec := { name := "bagCounts", fn := fun _ => fun
  | [d] => { results := [.lit (.bool true)], args := [d] }
  | _ => none }
def bagCountsRow : OpenClaim := { program := "ytidpfkehmokdfaa", sum := "7acbb026b87fbd3c5261df286cc6e94ad0fb74ff85f576f1058aba05a7e58dd5", func := "postillion/postillionlaw6.BagCounts", spec := "bagCounts", inPlace := ["slices.overlaps[postillion/bag.some[string]]"], unfollowed := true, recurses := true, apart := false }
def BagCountsSaid : Prop := bagCountsRow.holds Try.pinned (OpenSpec.ofChange bagCountsSpec)

/-- ITS FALSE NEIGHBOUR: 'it returns false'. Refute it at one input. -/
def bagCountsWrong : ChangeSpec := { name := "bagCounts", fn := fun _ => fun
  | [d] => { results := [.lit (.bool false)], args := [d] }
  | _ => none }
def BagCountsWrongFalsely : Prop := bagCountsRow.holds Try.pinned (OpenSpec.ofChange bagCountsWrong)

/-- 'postillionlaw6.BagAll': WHATEVER THE INPUT: true; the input reads as it did. -/
def bagAllSpec : ChangeSpec := { name := "bagAll", fn := fun _ => fun
  | [d1, d2] => { results := [.lit (.bool true)], args := [d1, d2] }
  | _ => none }
def bagAllRow : OpenClaim := { program := "ytidpfkehmokdfaa", sum := "7acbb026b87fbd3c5261df286cc6e94ad0fb74ff85f576f1058aba05a7e58dd5", func := "postillion/postillionlaw6.BagAll", spec := "bagAll", inPlace := ["slices.overlaps[postillion/bag.some[string]]", "slices.overlaps[postillion/bag.some[int]]"], unfollowed := true, recurses := true, apart := false }
def BagAllSaid : Prop := bagAllRow.holds Try.pinned (OpenSpec.ofChange bagAllSpec)

/-- ITS FALSE NEIGHBOUR: 'it returns false'. Refute it at one input. -/
def bagAllWrong : ChangeSpec := { name := "bagAll", fn := fun _ => fun
  | [d1, d2] => { results := [.lit (.bool false)], args := [d1, d2] }
  | _ => none }
def BagAllWrongFalsely : Prop := bagAllRow.holds Try.pinned (OpenSpec.ofChange bagAllWrong)

/-- 'postillionlaw6.BagNone': WHATEVER THE INPUT: true; the input reads as it did. -/
def bagNoneSpec : ChangeSpec := { name := "bagNone", fn := fun _ => fun
  | [] => { results := [.lit (.bool true)], args := [] }
  | _ => none }
def bagNoneRow : OpenClaim := { program := "ytidpfkehmokdfaa", sum := "7acbb026b87fbd3c5261df286cc6e94ad0fb74ff85f576f1058aba05a7e58dd5", func := "postillion/postillionlaw6.BagNone", spec := "bagNone", inPlace := ["slices.overlaps[postillion/bag.some[string]]", "slices.overlaps[postillion/bag.some[int]]"], unfollowed := true, recurses := true, apart := false }
def BagNoneSaid : Prop := bagNoneRow.holds Try.pinned (OpenSpec.ofChange bagNoneSpec)

/-- ITS FALSE NEIGHBOUR: 'it returns false'. Refute it at one input. -/
def bagNoneWrong : ChangeSpec := { name := "bagNone", fn := fun _ => fun
  | [] => { results := [.lit (.bool false)], args := [] }
  | _ => none }
def BagNoneWrongFalsely : Prop := bagNoneRow.holds Try.pinned (OpenSpec.ofChange bagNoneWrong)

/-- 'postillionlaw6.BagEqual': WHATEVER THE INPUT: true; the input reads as it did. -/
def bagEqualSpec : ChangeSpec := { name := "bagEqual", fn := fun _ => fun
  | [d] => { results := [.lit (.bool true)], args := [d] }
  | _ => none }
def bagEqualRow : OpenClaim := { program := "ytidpfkehmokdfaa", sum := "7acbb026b87fbd3c5261df286cc6e94ad0fb74ff85f576f1058aba05a7e58dd5", func := "postillion/postillionlaw6.BagEqual", spec := "bagEqual", inPlace := ["slices.overlaps[postillion/bag.some[string]]", "slices.overlaps[postillion/bag.some[int]]"], unfollowed := true, recurses := true, apart := false }
def BagEqualSaid : Prop := bagEqualRow.holds Try.pinned (OpenSpec.ofChange bagEqualSpec)

/-- ITS FALSE NEIGHBOUR: 'it returns false'. Refute it at one input. -/
def bagEqualWrong : ChangeSpec := { name := "bagEqual", fn := fun _ => fun
  | [d] => { results := [.lit (.bool false)], args := [d] }
  | _ => none }
def BagEqualWrongFalsely : Prop := bagEqualRow.holds Try.pinned (OpenSpec.ofChange bagEqualWrong)

/- THE SECOND FORM. 'bulk': how many values and letters a reading holds, each counted each time it is reached (what is shared counts as often as it is met; a slice's spare places count too). A statement '..UptoSaid' is the law's where the arguments, and the package variables that the reading takes, are together of bulk at most 1048576: NARROWER than '..Said'. Prove '..Said' where nothing that the law and all that it calls make is longer than what came in: it says more and counts as full. Else prove '..UptoSaid'. A law counts once. -/
mutual
def uptoBulk {H : Type} : DataW H → Nat
  | .lit (.string bytes) => bytes.length + 1
  | .lit _ => 1
  | .nil => 1
  | .ptr d => uptoBulk d + 1
  | .slice elems spare => uptoBulkAll elems + uptoBulkAll spare + 1
  | .agg parts => uptoBulkAll parts + 1
  | .iface _ d => uptoBulk d + 1
  | .map entries => uptoBulkEntries entries + 1
  | .held _ => 1
def uptoBulkAll {H : Type} : List (DataW H) → Nat
  | [] => 0
  | d :: r => uptoBulk d + uptoBulkAll r
def uptoBulkEntries {H : Type} : List (Lit × DataW H) → Nat
  | [] => 0
  | x :: r => uptoBulkEntry x + uptoBulkEntries r
def uptoBulkEntry {H : Type} : Lit × DataW H → Nat
  | (.string bytes, d) => bytes.length + uptoBulk d + 1
  | (_, d) => uptoBulk d + 1
 end
def uptoSmall : (H : Type) → List (DataW H) → Bool := fun _ ds => decide (uptoBulkAll ds ≤ 1048576)
def OpenSpec.upto (s : _root_.Go.ChangeSpec) : _root_.Go.OpenSpec := { _root_.Go.OpenSpec.ofChange s with cond := some uptoSmall }

/-- 'postillionlaw6.BagOrder', WHERE WHAT IT READS IS OF BULK AT MOST 1048576: true; the input reads as it did. -/
def bagOrderUptoRow : OpenClaim := { program := "ytidpfkehmokdfaa", sum := "7acbb026b87fbd3c5261df286cc6e94ad0fb74ff85f576f1058aba05a7e58dd5", func := "postillion/postillionlaw6.BagOrder", spec := "bagOrder", inPlace := ["slices.overlaps[postillion/bag.some[string]]", "slices.overlaps[postillion/bag.some[int]]"], unfollowed := true, recurses := true, apart := false, narrowed := true }
def BagOrderUptoSaid : Prop := bagOrderUptoRow.holds Try.pinned (OpenSpec.upto bagOrderSpec)

/-- 'postillionlaw6.TimerAll', WHERE WHAT IT READS IS OF BULK AT MOST 1048576: true; the input reads as it did. -/
def timerAllUptoRow : OpenClaim := { program := "ytidpfkehmokdfaa", sum := "7acbb026b87fbd3c5261df286cc6e94ad0fb74ff85f576f1058aba05a7e58dd5", func := "postillion/postillionlaw6.TimerAll", spec := "timerAll", inPlace := ["slices.overlaps[postillion/bag.some[string]]"], unfollowed := true, recurses := true, apart := false, narrowed := true }
def TimerAllUptoSaid : Prop := timerAllUptoRow.holds Try.pinned (OpenSpec.upto timerAllSpec)

/-- 'postillionlaw6.TimerLate', WHERE WHAT IT READS IS OF BULK AT MOST 1048576: true; the input reads as it did. -/
def timerLateUptoRow : OpenClaim := { program := "ytidpfkehmokdfaa", sum := "7acbb026b87fbd3c5261df286cc6e94ad0fb74ff85f576f1058aba05a7e58dd5", func := "postillion/postillionlaw6.TimerLate", spec := "timerLate", inPlace := ["slices.overlaps[postillion/bag.some[string]]"], unfollowed := true, recurses := true, apart := false, narrowed := true }
def TimerLateUptoSaid : Prop := timerLateUptoRow.holds Try.pinned (OpenSpec.upto timerLateSpec)

/-- 'postillionlaw6.TimerAges', WHERE WHAT IT READS IS OF BULK AT MOST 1048576: true; the input reads as it did. -/
def timerAgesUptoRow : OpenClaim := { program := "ytidpfkehmokdfaa", sum := "7acbb026b87fbd3c5261df286cc6e94ad0fb74ff85f576f1058aba05a7e58dd5", func := "postillion/postillionlaw6.TimerAges", spec := "timerAges", inPlace := ["slices.overlaps[postillion/bag.some[string]]"], unfollowed := true, recurses := true, apart := false, narrowed := true }
def TimerAgesUptoSaid : Prop := timerAgesUptoRow.holds Try.pinned (OpenSpec.upto timerAgesSpec)

/-- 'postillionlaw6.TimerGone', WHERE WHAT IT READS IS OF BULK AT MOST 1048576: true; the input reads as it did. -/
def timerGoneUptoRow : OpenClaim := { program := "ytidpfkehmokdfaa", sum := "7acbb026b87fbd3c5261df286cc6e94ad0fb74ff85f576f1058aba05a7e58dd5", func := "postillion/postillionlaw6.TimerGone", spec := "timerGone", inPlace := ["slices.overlaps[postillion/bag.some[string]]"], unfollowed := true, recurses := true, apart := false, narrowed := true }
def TimerGoneUptoSaid : Prop := timerGoneUptoRow.holds Try.pinned (OpenSpec.upto timerGoneSpec)

/-- 'postillionlaw6.BagCounts', WHERE WHAT IT READS IS OF BULK AT MOST 1048576: true; the input reads as it did. -/
def bagCountsUptoRow : OpenClaim := { program := "ytidpfkehmokdfaa", sum := "7acbb026b87fbd3c5261df286cc6e94ad0fb74ff85f576f1058aba05a7e58dd5", func := "postillion/postillionlaw6.BagCounts", spec := "bagCounts", inPlace := ["slices.overlaps[postillion/bag.some[string]]"], unfollowed := true, recurses := true, apart := false, narrowed := true }
def BagCountsUptoSaid : Prop := bagCountsUptoRow.holds Try.pinned (OpenSpec.upto bagCountsSpec)

/-- 'postillionlaw6.BagAll', WHERE WHAT IT READS IS OF BULK AT MOST 1048576: true; the input reads as it did. -/
def bagAllUptoRow : OpenClaim := { program := "ytidpfkehmokdfaa", sum := "7acbb026b87fbd3c5261df286cc6e94ad0fb74ff85f576f1058aba05a7e58dd5", func := "postillion/postillionlaw6.BagAll", spec := "bagAll", inPlace := ["slices.overlaps[postillion/bag.some[string]]", "slices.overlaps[postillion/bag.some[int]]"], unfollowed := true, recurses := true, apart := false, narrowed := true }
def BagAllUptoSaid : Prop := bagAllUptoRow.holds Try.pinned (OpenSpec.upto bagAllSpec)

/-- 'postillionlaw6.BagNone', WHERE WHAT IT READS IS OF BULK AT MOST 1048576: true; the input reads as it did. -/
def bagNoneUptoRow : OpenClaim := { program := "ytidpfkehmokdfaa", sum := "7acbb026b87fbd3c5261df286cc6e94ad0fb74ff85f576f1058aba05a7e58dd5", func := "postillion/postillionlaw6.BagNone", spec := "bagNone", inPlace := ["slices.overlaps[postillion/bag.some[string]]", "slices.overlaps[postillion/bag.some[int]]"], unfollowed := true, recurses := true, apart := false, narrowed := true }
def BagNoneUptoSaid : Prop := bagNoneUptoRow.holds Try.pinned (OpenSpec.upto bagNoneSpec)

/-- 'postillionlaw6.BagEqual', WHERE WHAT IT READS IS OF BULK AT MOST 1048576: true; the input reads as it did. -/
def bagEqualUptoRow : OpenClaim := { program := "ytidpfkehmokdfaa", sum := "7acbb026b87fbd3c5261df286cc6e94ad0fb74ff85f576f1058aba05a7e58dd5", func := "postillion/postillionlaw6.BagEqual", spec := "bagEqual", inPlace := ["slices.overlaps[postillion/bag.some[string]]", "slices.overlaps[postillion/bag.some[int]]"], unfollowed := true, recurses := true, apart := false, narrowed := true }
def BagEqualUptoSaid : Prop := bagEqualUptoRow.holds Try.pinned (OpenSpec.upto bagEqualSpec)

end Rows
end Go.Proofs.Ytidpfkehmokdfaa
