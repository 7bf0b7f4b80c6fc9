/-
  No cell of these rows narrows 'for every input' (looked for: loops, veiled, ifaces, maps, wideKeys, modest, calm, conditions, laid).
  DERIVED. THE GIVEN ROWS OF THIS SEAT. 10 by the template 'for every input the law returns true; each argument reads behind the call as it read before'; 0 by the template 'total and deterministic' (their statements: YtlabhbjampkhpaaGreatTotals.lean).
  GIVEN WITH THE SEED: the statements are not yours to turn. If you find one false, say at which input.
  Laid BY PROGRAM, IN A SANDBOX (cutbox-rows.mjs): the forced cells as the released guide's own fill.sh prints them over the translation efceaef3972bbbef… (all of the seat's roots in one cut). By AI agents, Wed Nov 11 2026. No macro, syntax, notation, axiom, sorry.
-/
import Derived.Test.YtlabhbjampkhpaaGreatChecked
import GoSem.Claim
import GoSem.ClaimJoined
import GoSem.ClaimMapViews
import Derived.JoinedTies
import Derived.KernelRfl
namespace Go.Proofs.YtlabhbjampkhpaaGreat
/- THE CELL 'sum', in the pinned program and in every row, IS THE sha256 OF THE DUMP (.gsa) THAT YtlabhbjampkhpaaGreatProg.lean LOADS. Nothing in Lean hashes anything: it is a label: what it is worth is what the hold of that sum in a sandbox is worth. -/
noncomputable def Tryz.pinned : Pinned := { name := "ytlabhbjampkhpaagreat", sum := "efceaef3972bbbeffb2b6be3d8776166c104672b94bedf4d589e1cee2f8a3bb1", checked := Tryz.checked }
namespace Rows
def none {H : Type} : Left H := { results := [], args := [] }

/-- 'postillionlaw15.WireAll': WHATEVER THE INPUT: true; the input reads as it did. -/
def wireAllSpec : ChangeSpec := { name := "wireAll", fn := fun _ => fun
  | [d1, d2, d3] => { results := [.lit (.bool true)], args := [d1, d2, d3] }
  | _ => none }
def wireAllRow : OpenClaim := { program := "ytlabhbjampkhpaagreat", sum := "efceaef3972bbbeffb2b6be3d8776166c104672b94bedf4d589e1cee2f8a3bb1", func := "postillion/postillionlaw15.WireAll", spec := "wireAll", inPlace := ["slices.overlaps[postillion/bag.some[string]]"], unfollowed := true, recurses := true, apart := false }
def WireAllSaid : Prop := wireAllRow.holds Tryz.pinned (OpenSpec.ofChange wireAllSpec)

/-- ITS FALSE NEIGHBOUR: 'it returns false'. Refute it at one input. -/
def wireAllWrong : ChangeSpec := { name := "wireAll", fn := fun _ => fun
  | [d1, d2, d3] => { results := [.lit (.bool false)], args := [d1, d2, d3] }
  | _ => none }
def WireAllWrongFalsely : Prop := wireAllRow.holds Tryz.pinned (OpenSpec.ofChange wireAllWrong)

/-- 'postillionlaw15.WireTurn': WHATEVER THE INPUT: true; the input reads as it did. -/
def wireTurnSpec : ChangeSpec := { name := "wireTurn", fn := fun _ => fun
  | [d1, d2, d3] => { results := [.lit (.bool true)], args := [d1, d2, d3] }
  | _ => none }
def wireTurnRow : OpenClaim := { program := "ytlabhbjampkhpaagreat", sum := "efceaef3972bbbeffb2b6be3d8776166c104672b94bedf4d589e1cee2f8a3bb1", func := "postillion/postillionlaw15.WireTurn", spec := "wireTurn", inPlace := ["slices.overlaps[postillion/bag.some[string]]"], unfollowed := true, recurses := true, apart := false }
def WireTurnSaid : Prop := wireTurnRow.holds Tryz.pinned (OpenSpec.ofChange wireTurnSpec)

/-- ITS FALSE NEIGHBOUR: 'it returns false'. Refute it at one input. -/
def wireTurnWrong : ChangeSpec := { name := "wireTurn", fn := fun _ => fun
  | [d1, d2, d3] => { results := [.lit (.bool false)], args := [d1, d2, d3] }
  | _ => none }
def WireTurnWrongFalsely : Prop := wireTurnRow.holds Tryz.pinned (OpenSpec.ofChange wireTurnWrong)

/-- 'postillionlaw15.NetAll': WHATEVER THE INPUT: true; the input reads as it did. -/
def netAllSpec : ChangeSpec := { name := "netAll", fn := fun _ => fun
  | [d] => { results := [.lit (.bool true)], args := [d] }
  | _ => none }
def netAllRow : OpenClaim := { program := "ytlabhbjampkhpaagreat", sum := "efceaef3972bbbeffb2b6be3d8776166c104672b94bedf4d589e1cee2f8a3bb1", func := "postillion/postillionlaw15.NetAll", spec := "netAll", inPlace := ["slices.overlaps[postillion/bag.some[string]]"], unfollowed := true, recurses := true, apart := false }
def NetAllSaid : Prop := netAllRow.holds Tryz.pinned (OpenSpec.ofChange netAllSpec)

/-- ITS FALSE NEIGHBOUR: 'it returns false'. Refute it at one input. -/
def netAllWrong : ChangeSpec := { name := "netAll", fn := fun _ => fun
  | [d] => { results := [.lit (.bool false)], args := [d] }
  | _ => none }
def NetAllWrongFalsely : Prop := netAllRow.holds Tryz.pinned (OpenSpec.ofChange netAllWrong)

/-- 'postillionlaw15.NetOrder': WHATEVER THE INPUT: true; the input reads as it did. -/
def netOrderSpec : ChangeSpec := { name := "netOrder", fn := fun _ => fun
  | [d1, d2] => { results := [.lit (.bool true)], args := [d1, d2] }
  | _ => none }
def netOrderRow : OpenClaim := { program := "ytlabhbjampkhpaagreat", sum := "efceaef3972bbbeffb2b6be3d8776166c104672b94bedf4d589e1cee2f8a3bb1", func := "postillion/postillionlaw15.NetOrder", spec := "netOrder", inPlace := ["slices.overlaps[postillion/bag.some[string]]"], unfollowed := true, recurses := true, apart := false }
def NetOrderSaid : Prop := netOrderRow.holds Tryz.pinned (OpenSpec.ofChange netOrderSpec)

/-- ITS FALSE NEIGHBOUR: 'it returns false'. Refute it at one input. -/
def netOrderWrong : ChangeSpec := { name := "netOrder", fn := fun _ => fun
  | [d1, d2] => { results := [.lit (.bool false)], args := [d1, d2] }
  | _ => none }
def NetOrderWrongFalsely : Prop := netOrderRow.holds Tryz.pinned (OpenSpec.ofChange netOrderWrong)

/-- 'postillionlaw15.NetFull': WHATEVER THE INPUT: true; the input reads as it did. -/
def netFullSpec : ChangeSpec := { name := "netFull", fn := fun _ => fun
  | [d1, d2] => { results := [.lit (.bool true)], args := [d1, d2] }
  | _ => none }
def netFullRow : OpenClaim := { program := "ytlabhbjampkhpaagreat", sum := "efceaef3972bbbeffb2b6be3d8776166c104672b94bedf4d589e1cee2f8a3bb1", func := "postillion/postillionlaw15.NetFull", spec := "netFull", inPlace := ["slices.overlaps[postillion/bag.some[string]]"], unfollowed := true, recurses := true, apart := false }
def NetFullSaid : Prop := netFullRow.holds Tryz.pinned (OpenSpec.ofChange netFullSpec)

/-- ITS FALSE NEIGHBOUR: 'it returns false'. Refute it at one input. -/
def netFullWrong : ChangeSpec := { name := "netFull", fn := fun _ => fun
  | [d1, d2] => { results := [.lit (.bool false)], args := [d1, d2] }
  | _ => none }
def NetFullWrongFalsely : Prop := netFullRow.holds Tryz.pinned (OpenSpec.ofChange netFullWrong)

/-- 'postillionlaw15.NetNone': WHATEVER THE INPUT: true; the input reads as it did. -/
def netNoneSpec : ChangeSpec := { name := "netNone", fn := fun _ => fun
  | [] => { results := [.lit (.bool true)], args := [] }
  | _ => none }
def netNoneRow : OpenClaim := { program := "ytlabhbjampkhpaagreat", sum := "efceaef3972bbbeffb2b6be3d8776166c104672b94bedf4d589e1cee2f8a3bb1", func := "postillion/postillionlaw15.NetNone", spec := "netNone", inPlace := ["slices.overlaps[postillion/bag.some[string]]"], unfollowed := true, recurses := true, apart := false }
def NetNoneSaid : Prop := netNoneRow.holds Tryz.pinned (OpenSpec.ofChange netNoneSpec)

/-- ITS FALSE NEIGHBOUR: 'it returns false'. Refute it at one input. -/
def netNoneWrong : ChangeSpec := { name := "netNone", fn := fun _ => fun
  | [] => { results := [.lit (.bool false)], args := [] }
  | _ => none }
def NetNoneWrongFalsely : Prop := netNoneRow.holds Tryz.pinned (OpenSpec.ofChange netNoneWrong)

/-- 'postillionlaw15.WireForm': WHATEVER THE INPUT: true; the input reads as it did. -/
def wireFormSpec : ChangeSpec := { name := "wireForm", fn := fun _ => fun
  | [d] => { results := [.lit (.bool true)], args := [d] }
  | _ => none }
def wireFormRow : OpenClaim := { program := "ytlabhbjampkhpaagreat", sum := "efceaef3972bbbeffb2b6be3d8776166c104672b94bedf4d589e1cee2f8a3bb1", func := "postillion/postillionlaw15.WireForm", spec := "wireForm", inPlace := ["slices.overlaps[postillion/bag.some[string]]"], unfollowed := true, recurses := true, apart := false }
def WireFormSaid : Prop := wireFormRow.holds Tryz.pinned (OpenSpec.ofChange wireFormSpec)

/-- ITS FALSE NEIGHBOUR: 'it returns false'. Refute it at one input. -/
def wireFormWrong : ChangeSpec := { name := "wireForm", fn := fun _ => fun
  | [d] => { results := [.lit (.bool false)], args := [d] }
  | _ => none }
def WireFormWrongFalsely : Prop := wireFormRow.holds Tryz.pinned (OpenSpec.ofChange wireFormWrong)

/-- 'postillionlaw15.NetTwice': WHATEVER THE INPUT: true; the input reads as it did. -/
def netTwiceSpec : ChangeSpec := { name := "netTwice", fn := fun _ => fun
  | [d1, d2, d3, d4] => { results := [.lit (.bool true)], args := [d1, d2, d3, d4] }
  | _ => none }
def netTwiceRow : OpenClaim := { program := "ytlabhbjampkhpaagreat", sum := "efceaef3972bbbeffb2b6be3d8776166c104672b94bedf4d589e1cee2f8a3bb1", func := "postillion/postillionlaw15.NetTwice", spec := "netTwice", inPlace := ["slices.overlaps[postillion/bag.some[string]]"], unfollowed := true, recurses := true, apart := false }
def NetTwiceSaid : Prop := netTwiceRow.holds Tryz.pinned (OpenSpec.ofChange netTwiceSpec)

/-- ITS FALSE NEIGHBOUR: 'it returns false'. Refute it at one input. -/
def netTwiceWrong : ChangeSpec := { name := "netTwice", fn := fun _ => fun
  | [d1, d2, d3, d4] => { results := [.lit (.bool false)], args := [d1, d2, d3, d4] }
  | _ => none }
def NetTwiceWrongFalsely : Prop := netTwiceRow.holds Tryz.pinned (OpenSpec.ofChange netTwiceWrong)

/-- 'postillionlaw15.NetLook': WHATEVER THE INPUT: true; the input reads as it did. -/
def netLookSpec : ChangeSpec := { name := "netLook", fn := fun _ => fun
  | [d1, d2] => { results := [.lit (.bool true)], args := [d1, d2] }
  | _ => none }
def netLookRow : OpenClaim := { program := "ytlabhbjampkhpaagreat", sum := "efceaef3972bbbeffb2b6be3d8776166c104672b94bedf4d589e1cee2f8a3bb1", func := "postillion/postillionlaw15.NetLook", spec := "netLook", inPlace := ["slices.overlaps[postillion/bag.some[string]]"], unfollowed := true, recurses := true, apart := false }
def NetLookSaid : Prop := netLookRow.holds Tryz.pinned (OpenSpec.ofChange netLookSpec)

/-- ITS FALSE NEIGHBOUR: 'it returns false'. Refute it at one input. -/
def netLookWrong : ChangeSpec := { name := "netLook", fn := fun _ => fun
  | [d1, d2] => { results := [.lit (.bool false)], args := [d1, d2] }
  | _ => none }
def NetLookWrongFalsely : Prop := netLookRow.holds Tryz.pinned (OpenSpec.ofChange netLookWrong)

/-- 'postillionlaw15.WireUnlike': WHATEVER THE INPUT: true; the input reads as it did. -/
def wireUnlikeSpec : ChangeSpec := { name := "wireUnlike", fn := fun _ => fun
  | [d1, d2, d3] => { results := [.lit (.bool true)], args := [d1, d2, d3] }
  | _ => none }
def wireUnlikeRow : OpenClaim := { program := "ytlabhbjampkhpaagreat", sum := "efceaef3972bbbeffb2b6be3d8776166c104672b94bedf4d589e1cee2f8a3bb1", func := "postillion/postillionlaw15.WireUnlike", spec := "wireUnlike", inPlace := ["slices.overlaps[postillion/bag.some[string]]"], unfollowed := true, recurses := true, apart := false }
def WireUnlikeSaid : Prop := wireUnlikeRow.holds Tryz.pinned (OpenSpec.ofChange wireUnlikeSpec)

/-- ITS FALSE NEIGHBOUR: 'it returns false'. Refute it at one input. -/
def wireUnlikeWrong : ChangeSpec := { name := "wireUnlike", fn := fun _ => fun
  | [d1, d2, d3] => { results := [.lit (.bool false)], args := [d1, d2, d3] }
  | _ => none }
def WireUnlikeWrongFalsely : Prop := wireUnlikeRow.holds Tryz.pinned (OpenSpec.ofChange wireUnlikeWrong)

/- THE SECOND FORM. 'bulk': how many values and letters a reading holds, each counted each time it is reached (what is shared counts as often as it is met; a slice's spare places count too). A statement '..UptoSaid' is the law's where the arguments, and the package variables that the reading takes, are together of bulk at most 1048576: NARROWER than '..Said'. Prove '..Said' where nothing that the law and all that it calls make is longer than what came in: it says more and counts as full. Else prove '..UptoSaid'. A law counts once. -/
mutual
def uptoBulk {H : Type} : DataW H → Nat
  | .lit (.string bytes) => bytes.length + 1
  | .lit _ => 1
  | .nil => 1
  | .ptr d => uptoBulk d + 1
  | .slice elems spare => uptoBulkAll elems + uptoBulkAll spare + 1
  | .agg parts => uptoBulkAll parts + 1
  | .iface _ d => uptoBulk d + 1
  | .map entries => uptoBulkEntries entries + 1
  | .held _ => 1
def uptoBulkAll {H : Type} : List (DataW H) → Nat
  | [] => 0
  | d :: r => uptoBulk d + uptoBulkAll r
def uptoBulkEntries {H : Type} : List (Lit × DataW H) → Nat
  | [] => 0
  | x :: r => uptoBulkEntry x + uptoBulkEntries r
def uptoBulkEntry {H : Type} : Lit × DataW H → Nat
  | (.string bytes, d) => bytes.length + uptoBulk d + 1
  | (_, d) => uptoBulk d + 1
 end
def uptoSmall : (H : Type) → List (DataW H) → Bool := fun _ ds => decide (uptoBulkAll ds ≤ 1048576)
def OpenSpec.upto (s : _root_.Go.ChangeSpec) : _root_.Go.OpenSpec := { _root_.Go.OpenSpec.ofChange s with cond := some uptoSmall }

/-- 'postillionlaw15.WireAll', WHERE WHAT IT READS IS OF BULK AT MOST 1048576: true; the input reads as it did. -/
def wireAllUptoRow : OpenClaim := { program := "ytlabhbjampkhpaagreat", sum := "efceaef3972bbbeffb2b6be3d8776166c104672b94bedf4d589e1cee2f8a3bb1", func := "postillion/postillionlaw15.WireAll", spec := "wireAll", inPlace := ["slices.overlaps[postillion/bag.some[string]]"], unfollowed := true, recurses := true, apart := false, narrowed := true }
def WireAllUptoSaid : Prop := wireAllUptoRow.holds Tryz.pinned (OpenSpec.upto wireAllSpec)

/-- 'postillionlaw15.WireTurn', WHERE WHAT IT READS IS OF BULK AT MOST 1048576: true; the input reads as it did. -/
def wireTurnUptoRow : OpenClaim := { program := "ytlabhbjampkhpaagreat", sum := "efceaef3972bbbeffb2b6be3d8776166c104672b94bedf4d589e1cee2f8a3bb1", func := "postillion/postillionlaw15.WireTurn", spec := "wireTurn", inPlace := ["slices.overlaps[postillion/bag.some[string]]"], unfollowed := true, recurses := true, apart := false, narrowed := true }
def WireTurnUptoSaid : Prop := wireTurnUptoRow.holds Tryz.pinned (OpenSpec.upto wireTurnSpec)

/-- 'postillionlaw15.NetAll', WHERE WHAT IT READS IS OF BULK AT MOST 1048576: true; the input reads as it did. -/
def netAllUptoRow : OpenClaim := { program := "ytlabhbjampkhpaagreat", sum := "efceaef3972bbbeffb2b6be3d8776166c104672b94bedf4d589e1cee2f8a3bb1", func := "postillion/postillionlaw15.NetAll", spec := "netAll", inPlace := ["slices.overlaps[postillion/bag.some[string]]"], unfollowed := true, recurses := true, apart := false, narrowed := true }
def NetAllUptoSaid : Prop := netAllUptoRow.holds Tryz.pinned (OpenSpec.upto netAllSpec)

/-- 'postillionlaw15.NetOrder', WHERE WHAT IT READS IS OF BULK AT MOST 1048576: true; the input reads as it did. -/
def netOrderUptoRow : OpenClaim := { program := "ytlabhbjampkhpaagreat", sum := "efceaef3972bbbeffb2b6be3d8776166c104672b94bedf4d589e1cee2f8a3bb1", func := "postillion/postillionlaw15.NetOrder", spec := "netOrder", inPlace := ["slices.overlaps[postillion/bag.some[string]]"], unfollowed := true, recurses := true, apart := false, narrowed := true }
def NetOrderUptoSaid : Prop := netOrderUptoRow.holds Tryz.pinned (OpenSpec.upto netOrderSpec)

/-- 'postillionlaw15.NetFull', WHERE WHAT IT READS IS OF BULK AT MOST 1048576: true; the input reads as it did. -/
def netFullUptoRow : OpenClaim := { program := "ytlabhbjampkhpaagreat", sum := "efceaef3972bbbeffb2b6be3d8776166c104672b94bedf4d589e1cee2f8a3bb1", func := "postillion/postillionlaw15.NetFull", spec := "netFull", inPlace := ["slices.overlaps[postillion/bag.some[string]]"], unfollowed := true, recurses := true, apart := false, narrowed := true }
def NetFullUptoSaid : Prop := netFullUptoRow.holds Tryz.pinned (OpenSpec.upto netFullSpec)

/-- 'postillionlaw15.NetNone', WHERE WHAT IT READS IS OF BULK AT MOST 1048576: true; the input reads as it did. -/
def netNoneUptoRow : OpenClaim := { program := "ytlabhbjampkhpaagreat", sum := "efceaef3972bbbeffb2b6be3d8776166c104672b94bedf4d589e1cee2f8a3bb1", func := "postillion/postillionlaw15.NetNone", spec := "netNone", inPlace := ["slices.overlaps[postillion/bag.some[string]]"], unfollowed := true, recurses := true, apart := false, narrowed := true }
def NetNoneUptoSaid : Prop := netNoneUptoRow.holds Tryz.pinned (OpenSpec.upto netNoneSpec)

/-- 'postillionlaw15.WireForm', WHERE WHAT IT READS IS OF BULK AT MOST 1048576: true; the input reads as it did. -/
def wireFormUptoRow : OpenClaim := { program := "ytlabhbjampkhpaagreat", sum := "efceaef3972bbbeffb2b6be3d8776166c104672b94bedf4d589e1cee2f8a3bb1", func := "postillion/postillionlaw15.WireForm", spec := "wireForm", inPlace := ["slices.overlaps[postillion/bag.some[string]]"], unfollowed := true, recurses := true, apart := false, narrowed := true }
def WireFormUptoSaid : Prop := wireFormUptoRow.holds Tryz.pinned (OpenSpec.upto wireFormSpec)

/-- 'postillionlaw15.NetTwice', WHERE WHAT IT READS IS OF BULK AT MOST 1048576: true; the input reads as it did. -/
def netTwiceUptoRow : OpenClaim := { program := "ytlabhbjampkhpaagreat", sum := "efceaef3972bbbeffb2b6be3d8776166c104672b94bedf4d589e1cee2f8a3bb1", func := "postillion/postillionlaw15.NetTwice", spec := "netTwice", inPlace := ["slices.overlaps[postillion/bag.some[string]]"], unfollowed := true, recurses := true, apart := false, narrowed := true }
def NetTwiceUptoSaid : Prop := netTwiceUptoRow.holds Tryz.pinned (OpenSpec.upto netTwiceSpec)

/-- 'postillionlaw15.NetLook', WHERE WHAT IT READS IS OF BULK AT MOST 1048576: true; the input reads as it did. -/
def netLookUptoRow : OpenClaim := { program := "ytlabhbjampkhpaagreat", sum := "efceaef3972bbbeffb2b6be3d8776166c104672b94bedf4d589e1cee2f8a3bb1", func := "postillion/postillionlaw15.NetLook", spec := "netLook", inPlace := ["slices.overlaps[postillion/bag.some[string]]"], unfollowed := true, recurses := true, apart := false, narrowed := true }
def NetLookUptoSaid : Prop := netLookUptoRow.holds Tryz.pinned (OpenSpec.upto netLookSpec)

/-- 'postillionlaw15.WireUnlike', WHERE WHAT IT READS IS OF BULK AT MOST 1048576: true; the input reads as it did. -/
def wireUnlikeUptoRow : OpenClaim := { program := "ytlabhbjampkhpaagreat", sum := "efceaef3972bbbeffb2b6be3d8776166c104672b94bedf4d589e1cee2f8a3bb1", func := "postillion/postillionlaw15.WireUnlike", spec := "wireUnlike", inPlace := ["slices.overlaps[postillion/bag.some[string]]"], unfollowed := true, recurses := true, apart := false, narrowed := true }
def WireUnlikeUptoSaid : Prop := wireUnlikeUptoRow.holds Tryz.pinned (OpenSpec.upto wireUnlikeSpec)

end Rows
end Go.Proofs.YtlabhbjampkhpaaGreat
