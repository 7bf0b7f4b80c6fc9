/-
  No cell of these rows narrows 'for every input' (looked for: loops, veiled, ifaces, maps, wideKeys, modest, calm, conditions, laid).
  DERIVED. THE GIVEN ROWS OF THIS SEAT. 9 by the template 'for every input the law returns true; each argument reads behind the call as it read before'; 0 by the template 'total and deterministic' (their statements: YtdbgplnjppaimaaGreatTotals.lean).
  GIVEN WITH THE SEED: the statements are not yours to turn. If you find one false, say at which input.
  Laid BY PROGRAM, IN A SANDBOX (cutbox-rows.mjs): the forced cells as the released guide's own fill.sh prints them over the translation 17a0997e5935ec86… (all of the seat's roots in one cut). By AI agents, Wed Nov 11 2026. No macro, syntax, notation, axiom, sorry.
-/
import Derived.Test.YtdbgplnjppaimaaGreatChecked
import GoSem.Claim
import GoSem.ClaimJoined
import GoSem.ClaimMapViews
import Derived.JoinedTies
import Derived.KernelRfl
namespace Go.Proofs.YtdbgplnjppaimaaGreat
/- THE CELL 'sum', in the pinned program and in every row, IS THE sha256 OF THE DUMP (.gsa) THAT YtdbgplnjppaimaaGreatProg.lean LOADS. Nothing in Lean hashes anything: it is a label: what it is worth is what the hold of that sum in a sandbox is worth. -/
noncomputable def Tryz.pinned : Pinned := { name := "ytdbgplnjppaimaagreat", sum := "17a0997e5935ec86fe7d8d1446fb15c0631fe9f27e169b1a9b666ca1926df116", checked := Tryz.checked }
namespace Rows
def none {H : Type} : Left H := { results := [], args := [] }

/-- 'postillionlaw13.LockOwn': WHATEVER THE INPUT: true; the input reads as it did. -/
def lockOwnSpec : ChangeSpec := { name := "lockOwn", fn := fun _ => fun
  | [d] => { results := [.lit (.bool true)], args := [d] }
  | _ => none }
def lockOwnRow : OpenClaim := { program := "ytdbgplnjppaimaagreat", sum := "17a0997e5935ec86fe7d8d1446fb15c0631fe9f27e169b1a9b666ca1926df116", func := "postillion/postillionlaw13.LockOwn", spec := "lockOwn", inPlace := ["slices.overlaps[postillion/bag.some[string]]"], unfollowed := true, recurses := true, apart := false }
def LockOwnSaid : Prop := lockOwnRow.holds Tryz.pinned (OpenSpec.ofChange lockOwnSpec)

/-- ITS FALSE NEIGHBOUR: 'it returns false'. Refute it at one input. -/
def lockOwnWrong : ChangeSpec := { name := "lockOwn", fn := fun _ => fun
  | [d] => { results := [.lit (.bool false)], args := [d] }
  | _ => none }
def LockOwnWrongFalsely : Prop := lockOwnRow.holds Tryz.pinned (OpenSpec.ofChange lockOwnWrong)

/-- 'postillionlaw13.SessFull': WHATEVER THE INPUT: true; the input reads as it did. -/
def sessFullSpec : ChangeSpec := { name := "sessFull", fn := fun _ => fun
  | [d1, d2] => { results := [.lit (.bool true)], args := [d1, d2] }
  | _ => none }
def sessFullRow : OpenClaim := { program := "ytdbgplnjppaimaagreat", sum := "17a0997e5935ec86fe7d8d1446fb15c0631fe9f27e169b1a9b666ca1926df116", func := "postillion/postillionlaw13.SessFull", spec := "sessFull", inPlace := ["slices.overlaps[postillion/bag.some[string]]"], unfollowed := true, recurses := true, apart := false }
def SessFullSaid : Prop := sessFullRow.holds Tryz.pinned (OpenSpec.ofChange sessFullSpec)

/-- ITS FALSE NEIGHBOUR: 'it returns false'. Refute it at one input. -/
def sessFullWrong : ChangeSpec := { name := "sessFull", fn := fun _ => fun
  | [d1, d2] => { results := [.lit (.bool false)], args := [d1, d2] }
  | _ => none }
def SessFullWrongFalsely : Prop := sessFullRow.holds Tryz.pinned (OpenSpec.ofChange sessFullWrong)

/-- 'postillionlaw13.LockFull': WHATEVER THE INPUT: true; the input reads as it did. -/
def lockFullSpec : ChangeSpec := { name := "lockFull", fn := fun _ => fun
  | [d] => { results := [.lit (.bool true)], args := [d] }
  | _ => none }
def lockFullRow : OpenClaim := { program := "ytdbgplnjppaimaagreat", sum := "17a0997e5935ec86fe7d8d1446fb15c0631fe9f27e169b1a9b666ca1926df116", func := "postillion/postillionlaw13.LockFull", spec := "lockFull", inPlace := ["slices.overlaps[postillion/bag.some[string]]"], unfollowed := true, recurses := true, apart := false }
def LockFullSaid : Prop := lockFullRow.holds Tryz.pinned (OpenSpec.ofChange lockFullSpec)

/-- ITS FALSE NEIGHBOUR: 'it returns false'. Refute it at one input. -/
def lockFullWrong : ChangeSpec := { name := "lockFull", fn := fun _ => fun
  | [d] => { results := [.lit (.bool false)], args := [d] }
  | _ => none }
def LockFullWrongFalsely : Prop := lockFullRow.holds Tryz.pinned (OpenSpec.ofChange lockFullWrong)

/-- 'postillionlaw13.SessNumbers': WHATEVER THE INPUT: true; the input reads as it did. -/
def sessNumbersSpec : ChangeSpec := { name := "sessNumbers", fn := fun _ => fun
  | [d] => { results := [.lit (.bool true)], args := [d] }
  | _ => none }
def sessNumbersRow : OpenClaim := { program := "ytdbgplnjppaimaagreat", sum := "17a0997e5935ec86fe7d8d1446fb15c0631fe9f27e169b1a9b666ca1926df116", func := "postillion/postillionlaw13.SessNumbers", spec := "sessNumbers", inPlace := ["slices.overlaps[postillion/bag.some[string]]"], unfollowed := true, recurses := true, apart := false }
def SessNumbersSaid : Prop := sessNumbersRow.holds Tryz.pinned (OpenSpec.ofChange sessNumbersSpec)

/-- ITS FALSE NEIGHBOUR: 'it returns false'. Refute it at one input. -/
def sessNumbersWrong : ChangeSpec := { name := "sessNumbers", fn := fun _ => fun
  | [d] => { results := [.lit (.bool false)], args := [d] }
  | _ => none }
def SessNumbersWrongFalsely : Prop := sessNumbersRow.holds Tryz.pinned (OpenSpec.ofChange sessNumbersWrong)

/-- 'postillionlaw13.LockAll': WHATEVER THE INPUT: true; the input reads as it did. -/
def lockAllSpec : ChangeSpec := { name := "lockAll", fn := fun _ => fun
  | [d] => { results := [.lit (.bool true)], args := [d] }
  | _ => none }
def lockAllRow : OpenClaim := { program := "ytdbgplnjppaimaagreat", sum := "17a0997e5935ec86fe7d8d1446fb15c0631fe9f27e169b1a9b666ca1926df116", func := "postillion/postillionlaw13.LockAll", spec := "lockAll", inPlace := ["slices.overlaps[postillion/bag.some[string]]"], unfollowed := true, recurses := true, apart := false }
def LockAllSaid : Prop := lockAllRow.holds Tryz.pinned (OpenSpec.ofChange lockAllSpec)

/-- ITS FALSE NEIGHBOUR: 'it returns false'. Refute it at one input. -/
def lockAllWrong : ChangeSpec := { name := "lockAll", fn := fun _ => fun
  | [d] => { results := [.lit (.bool false)], args := [d] }
  | _ => none }
def LockAllWrongFalsely : Prop := lockAllRow.holds Tryz.pinned (OpenSpec.ofChange lockAllWrong)

/-- 'postillionlaw13.LockSilent': WHATEVER THE INPUT: true; the input reads as it did. -/
def lockSilentSpec : ChangeSpec := { name := "lockSilent", fn := fun _ => fun
  | [d1, d2] => { results := [.lit (.bool true)], args := [d1, d2] }
  | _ => none }
def lockSilentRow : OpenClaim := { program := "ytdbgplnjppaimaagreat", sum := "17a0997e5935ec86fe7d8d1446fb15c0631fe9f27e169b1a9b666ca1926df116", func := "postillion/postillionlaw13.LockSilent", spec := "lockSilent", inPlace := ["slices.overlaps[postillion/bag.some[string]]"], unfollowed := true, recurses := true, apart := false }
def LockSilentSaid : Prop := lockSilentRow.holds Tryz.pinned (OpenSpec.ofChange lockSilentSpec)

/-- ITS FALSE NEIGHBOUR: 'it returns false'. Refute it at one input. -/
def lockSilentWrong : ChangeSpec := { name := "lockSilent", fn := fun _ => fun
  | [d1, d2] => { results := [.lit (.bool false)], args := [d1, d2] }
  | _ => none }
def LockSilentWrongFalsely : Prop := lockSilentRow.holds Tryz.pinned (OpenSpec.ofChange lockSilentWrong)

/-- 'postillionlaw13.SessBind': WHATEVER THE INPUT: true; the input reads as it did. -/
def sessBindSpec : ChangeSpec := { name := "sessBind", fn := fun _ => fun
  | [d] => { results := [.lit (.bool true)], args := [d] }
  | _ => none }
def sessBindRow : OpenClaim := { program := "ytdbgplnjppaimaagreat", sum := "17a0997e5935ec86fe7d8d1446fb15c0631fe9f27e169b1a9b666ca1926df116", func := "postillion/postillionlaw13.SessBind", spec := "sessBind", inPlace := ["slices.overlaps[postillion/bag.some[string]]"], unfollowed := true, recurses := true, apart := false }
def SessBindSaid : Prop := sessBindRow.holds Tryz.pinned (OpenSpec.ofChange sessBindSpec)

/-- ITS FALSE NEIGHBOUR: 'it returns false'. Refute it at one input. -/
def sessBindWrong : ChangeSpec := { name := "sessBind", fn := fun _ => fun
  | [d] => { results := [.lit (.bool false)], args := [d] }
  | _ => none }
def SessBindWrongFalsely : Prop := sessBindRow.holds Tryz.pinned (OpenSpec.ofChange sessBindWrong)

/-- 'postillionlaw13.SessAll': WHATEVER THE INPUT: true; the input reads as it did. -/
def sessAllSpec : ChangeSpec := { name := "sessAll", fn := fun _ => fun
  | [d1, d2] => { results := [.lit (.bool true)], args := [d1, d2] }
  | _ => none }
def sessAllRow : OpenClaim := { program := "ytdbgplnjppaimaagreat", sum := "17a0997e5935ec86fe7d8d1446fb15c0631fe9f27e169b1a9b666ca1926df116", func := "postillion/postillionlaw13.SessAll", spec := "sessAll", inPlace := ["slices.overlaps[postillion/bag.some[string]]"], unfollowed := true, recurses := true, apart := false }
def SessAllSaid : Prop := sessAllRow.holds Tryz.pinned (OpenSpec.ofChange sessAllSpec)

/-- ITS FALSE NEIGHBOUR: 'it returns false'. Refute it at one input. -/
def sessAllWrong : ChangeSpec := { name := "sessAll", fn := fun _ => fun
  | [d1, d2] => { results := [.lit (.bool false)], args := [d1, d2] }
  | _ => none }
def SessAllWrongFalsely : Prop := sessAllRow.holds Tryz.pinned (OpenSpec.ofChange sessAllWrong)

/-- 'postillionlaw13.LockNone': WHATEVER THE INPUT: true; the input reads as it did. -/
def lockNoneSpec : ChangeSpec := { name := "lockNone", fn := fun _ => fun
  | [] => { results := [.lit (.bool true)], args := [] }
  | _ => none }
def lockNoneRow : OpenClaim := { program := "ytdbgplnjppaimaagreat", sum := "17a0997e5935ec86fe7d8d1446fb15c0631fe9f27e169b1a9b666ca1926df116", func := "postillion/postillionlaw13.LockNone", spec := "lockNone", inPlace := ["slices.overlaps[postillion/bag.some[string]]"], unfollowed := true, recurses := true, apart := false }
def LockNoneSaid : Prop := lockNoneRow.holds Tryz.pinned (OpenSpec.ofChange lockNoneSpec)

/-- ITS FALSE NEIGHBOUR: 'it returns false'. Refute it at one input. -/
def lockNoneWrong : ChangeSpec := { name := "lockNone", fn := fun _ => fun
  | [] => { results := [.lit (.bool false)], args := [] }
  | _ => none }
def LockNoneWrongFalsely : Prop := lockNoneRow.holds Tryz.pinned (OpenSpec.ofChange lockNoneWrong)

/- THE SECOND FORM. 'bulk': how many values and letters a reading holds, each counted each time it is reached (what is shared counts as often as it is met; a slice's spare places count too). A statement '..UptoSaid' is the law's where the arguments, and the package variables that the reading takes, are together of bulk at most 1048576: NARROWER than '..Said'. Prove '..Said' where nothing that the law and all that it calls make is longer than what came in: it says more and counts as full. Else prove '..UptoSaid'. A law counts once. -/
mutual
def uptoBulk {H : Type} : DataW H → Nat
  | .lit (.string bytes) => bytes.length + 1
  | .lit _ => 1
  | .nil => 1
  | .ptr d => uptoBulk d + 1
  | .slice elems spare => uptoBulkAll elems + uptoBulkAll spare + 1
  | .agg parts => uptoBulkAll parts + 1
  | .iface _ d => uptoBulk d + 1
  | .map entries => uptoBulkEntries entries + 1
  | .held _ => 1
def uptoBulkAll {H : Type} : List (DataW H) → Nat
  | [] => 0
  | d :: r => uptoBulk d + uptoBulkAll r
def uptoBulkEntries {H : Type} : List (Lit × DataW H) → Nat
  | [] => 0
  | x :: r => uptoBulkEntry x + uptoBulkEntries r
def uptoBulkEntry {H : Type} : Lit × DataW H → Nat
  | (.string bytes, d) => bytes.length + uptoBulk d + 1
  | (_, d) => uptoBulk d + 1
 end
def uptoSmall : (H : Type) → List (DataW H) → Bool := fun _ ds => decide (uptoBulkAll ds ≤ 1048576)
def OpenSpec.upto (s : _root_.Go.ChangeSpec) : _root_.Go.OpenSpec := { _root_.Go.OpenSpec.ofChange s with cond := some uptoSmall }

/-- 'postillionlaw13.LockOwn', WHERE WHAT IT READS IS OF BULK AT MOST 1048576: true; the input reads as it did. -/
def lockOwnUptoRow : OpenClaim := { program := "ytdbgplnjppaimaagreat", sum := "17a0997e5935ec86fe7d8d1446fb15c0631fe9f27e169b1a9b666ca1926df116", func := "postillion/postillionlaw13.LockOwn", spec := "lockOwn", inPlace := ["slices.overlaps[postillion/bag.some[string]]"], unfollowed := true, recurses := true, apart := false, narrowed := true }
def LockOwnUptoSaid : Prop := lockOwnUptoRow.holds Tryz.pinned (OpenSpec.upto lockOwnSpec)

/-- 'postillionlaw13.SessFull', WHERE WHAT IT READS IS OF BULK AT MOST 1048576: true; the input reads as it did. -/
def sessFullUptoRow : OpenClaim := { program := "ytdbgplnjppaimaagreat", sum := "17a0997e5935ec86fe7d8d1446fb15c0631fe9f27e169b1a9b666ca1926df116", func := "postillion/postillionlaw13.SessFull", spec := "sessFull", inPlace := ["slices.overlaps[postillion/bag.some[string]]"], unfollowed := true, recurses := true, apart := false, narrowed := true }
def SessFullUptoSaid : Prop := sessFullUptoRow.holds Tryz.pinned (OpenSpec.upto sessFullSpec)

/-- 'postillionlaw13.LockFull', WHERE WHAT IT READS IS OF BULK AT MOST 1048576: true; the input reads as it did. -/
def lockFullUptoRow : OpenClaim := { program := "ytdbgplnjppaimaagreat", sum := "17a0997e5935ec86fe7d8d1446fb15c0631fe9f27e169b1a9b666ca1926df116", func := "postillion/postillionlaw13.LockFull", spec := "lockFull", inPlace := ["slices.overlaps[postillion/bag.some[string]]"], unfollowed := true, recurses := true, apart := false, narrowed := true }
def LockFullUptoSaid : Prop := lockFullUptoRow.holds Tryz.pinned (OpenSpec.upto lockFullSpec)

/-- 'postillionlaw13.SessNumbers', WHERE WHAT IT READS IS OF BULK AT MOST 1048576: true; the input reads as it did. -/
def sessNumbersUptoRow : OpenClaim := { program := "ytdbgplnjppaimaagreat", sum := "17a0997e5935ec86fe7d8d1446fb15c0631fe9f27e169b1a9b666ca1926df116", func := "postillion/postillionlaw13.SessNumbers", spec := "sessNumbers", inPlace := ["slices.overlaps[postillion/bag.some[string]]"], unfollowed := true, recurses := true, apart := false, narrowed := true }
def SessNumbersUptoSaid : Prop := sessNumbersUptoRow.holds Tryz.pinned (OpenSpec.upto sessNumbersSpec)

/-- 'postillionlaw13.LockAll', WHERE WHAT IT READS IS OF BULK AT MOST 1048576: true; the input reads as it did. -/
def lockAllUptoRow : OpenClaim := { program := "ytdbgplnjppaimaagreat", sum := "17a0997e5935ec86fe7d8d1446fb15c0631fe9f27e169b1a9b666ca1926df116", func := "postillion/postillionlaw13.LockAll", spec := "lockAll", inPlace := ["slices.overlaps[postillion/bag.some[string]]"], unfollowed := true, recurses := true, apart := false, narrowed := true }
def LockAllUptoSaid : Prop := lockAllUptoRow.holds Tryz.pinned (OpenSpec.upto lockAllSpec)

/-- 'postillionlaw13.LockSilent', WHERE WHAT IT READS IS OF BULK AT MOST 1048576: true; the input reads as it did. -/
def lockSilentUptoRow : OpenClaim := { program := "ytdbgplnjppaimaagreat", sum := "17a0997e5935ec86fe7d8d1446fb15c0631fe9f27e169b1a9b666ca1926df116", func := "postillion/postillionlaw13.LockSilent", spec := "lockSilent", inPlace := ["slices.overlaps[postillion/bag.some[string]]"], unfollowed := true, recurses := true, apart := false, narrowed := true }
def LockSilentUptoSaid : Prop := lockSilentUptoRow.holds Tryz.pinned (OpenSpec.upto lockSilentSpec)

/-- 'postillionlaw13.SessBind', WHERE WHAT IT READS IS OF BULK AT MOST 1048576: true; the input reads as it did. -/
def sessBindUptoRow : OpenClaim := { program := "ytdbgplnjppaimaagreat", sum := "17a0997e5935ec86fe7d8d1446fb15c0631fe9f27e169b1a9b666ca1926df116", func := "postillion/postillionlaw13.SessBind", spec := "sessBind", inPlace := ["slices.overlaps[postillion/bag.some[string]]"], unfollowed := true, recurses := true, apart := false, narrowed := true }
def SessBindUptoSaid : Prop := sessBindUptoRow.holds Tryz.pinned (OpenSpec.upto sessBindSpec)

/-- 'postillionlaw13.SessAll', WHERE WHAT IT READS IS OF BULK AT MOST 1048576: true; the input reads as it did. -/
def sessAllUptoRow : OpenClaim := { program := "ytdbgplnjppaimaagreat", sum := "17a0997e5935ec86fe7d8d1446fb15c0631fe9f27e169b1a9b666ca1926df116", func := "postillion/postillionlaw13.SessAll", spec := "sessAll", inPlace := ["slices.overlaps[postillion/bag.some[string]]"], unfollowed := true, recurses := true, apart := false, narrowed := true }
def SessAllUptoSaid : Prop := sessAllUptoRow.holds Tryz.pinned (OpenSpec.upto sessAllSpec)

/-- 'postillionlaw13.LockNone', WHERE WHAT IT READS IS OF BULK AT MOST 1048576: true; the input reads as it did. -/
def lockNoneUptoRow : OpenClaim := { program := "ytdbgplnjppaimaagreat", sum := "17a0997e5935ec86fe7d8d1446fb15c0631fe9f27e169b1a9b666ca1926df116", func := "postillion/postillionlaw13.LockNone", spec := "lockNone", inPlace := ["slices.overlaps[postillion/bag.some[string]]"], unfollowed := true, recurses := true, apart := false, narrowed := true }
def LockNoneUptoSaid : Prop := lockNoneUptoRow.holds Tryz.pinned (OpenSpec.upto lockNoneSpec)

end Rows
end Go.Proofs.YtdbgplnjppaimaaGreat
