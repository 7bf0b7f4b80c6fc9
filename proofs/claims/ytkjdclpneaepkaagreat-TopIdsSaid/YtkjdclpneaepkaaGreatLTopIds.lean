/- TopIds: the law returns true and changes nothing that was there. No conditions. -/
import Derived.Test.YtkjdclpneaepkaaGreatTTopIdsA
import Derived.Test.YtkjdclpneaepkaaGreatTTopIdsB
import Derived.Test.YtkjdclpneaepkaaGreatTTopIdsC
import Derived.Test.YtkjdclpneaepkaaGreatTTopIdsD
import Derived.Test.YtkjdclpneaepkaaGreatTTopIdsE
import Derived.Test.YtkjdclpneaepkaaGreatTTopIdsF
import Derived.Test.YtkjdclpneaepkaaGreatTTopIdsG
import Derived.Test.YtkjdclpneaepkaaGreatTTopIdsH
import Derived.Test.YtkjdclpneaepkaaGreatTTopIdsI
import Derived.Test.YtkjdclpneaepkaaGreatTTopIdsJ
import Derived.Test.YtkjdclpneaepkaaGreatTTopIdsK
import Derived.Test.YtkjdclpneaepkaaGreatTTopIdsL
import Derived.Deep.CutRange
import Derived.Test.YtkjdclpneaepkaaGreatRows
import Derived.Test.YtkjdclpneaepkaaGreatGTopIds
import Derived.WalkKit
import Derived.ProofKit
import Derived.OpenShut
import Derived.ShutString
import Derived.ChangeOld
import Derived.Below
namespace Go.Proofs.YtkjdclpneaepkaaGreat.topIds
open Go Go.ChangeShapes Go.WideShapes Go.ChangeAt Go.RowKit
open Go.ChangeMaps (open_string shut_string)

theorem own : ownKnob Tryz.prog.godebug = none := by kernel_rfl
theorem laidOut : laidOutB Tryz.prog = true := facLaid

set_option linter.unusedVariables false
open Go.Proofs Go.Ev Go.Ev.Ch Go.RowKit Bo
theorem open_arg0 {H : Type} {enc : TypeId × Value → H} {a : Option Addr} {len cap : Nat} {d : DataW H} {p : List MemPlace} (W : World) (_base : Nat)
    (h : DataW.Trod enc Tryz.prog W 0 (fun _ => true) true 22 (.slice a len cap) d p) : ∃ l : List Bool, IsBo W a len cap l := open_bo h
theorem long (off n cap : Nat) : ∀ p : List Bool, p.length = 6 → Nat.ble 5 (p.count true) = false → oneTopIds off n cap p false = true
  | [false, false, false, false, false, false], _, h => b000000TopIds off n cap
  | [false, false, false, false, false, true], _, h => b000001TopIds off n cap
  | [false, false, false, false, true, false], _, h => b000010TopIds off n cap
  | [false, false, false, false, true, true], _, h => b000011TopIds off n cap
  | [false, false, false, true, false, false], _, h => b000100TopIds off n cap
  | [false, false, false, true, false, true], _, h => b000101TopIds off n cap
  | [false, false, false, true, true, false], _, h => b000110TopIds off n cap
  | [false, false, false, true, true, true], _, h => b000111TopIds off n cap
  | [false, false, true, false, false, false], _, h => b001000TopIds off n cap
  | [false, false, true, false, false, true], _, h => b001001TopIds off n cap
  | [false, false, true, false, true, false], _, h => b001010TopIds off n cap
  | [false, false, true, false, true, true], _, h => b001011TopIds off n cap
  | [false, false, true, true, false, false], _, h => b001100TopIds off n cap
  | [false, false, true, true, false, true], _, h => b001101TopIds off n cap
  | [false, false, true, true, true, false], _, h => b001110TopIds off n cap
  | [false, false, true, true, true, true], _, h => b001111TopIds off n cap
  | [false, true, false, false, false, false], _, h => b010000TopIds off n cap
  | [false, true, false, false, false, true], _, h => b010001TopIds off n cap
  | [false, true, false, false, true, false], _, h => b010010TopIds off n cap
  | [false, true, false, false, true, true], _, h => b010011TopIds off n cap
  | [false, true, false, true, false, false], _, h => b010100TopIds off n cap
  | [false, true, false, true, false, true], _, h => b010101TopIds off n cap
  | [false, true, false, true, true, false], _, h => b010110TopIds off n cap
  | [false, true, false, true, true, true], _, h => b010111TopIds off n cap
  | [false, true, true, false, false, false], _, h => b011000TopIds off n cap
  | [false, true, true, false, false, true], _, h => b011001TopIds off n cap
  | [false, true, true, false, true, false], _, h => b011010TopIds off n cap
  | [false, true, true, false, true, true], _, h => b011011TopIds off n cap
  | [false, true, true, true, false, false], _, h => b011100TopIds off n cap
  | [false, true, true, true, false, true], _, h => b011101TopIds off n cap
  | [false, true, true, true, true, false], _, h => b011110TopIds off n cap
  | [false, true, true, true, true, true], _, h => nomatch (show true = false from h)
  | [true, false, false, false, false, false], _, h => b100000TopIds off n cap
  | [true, false, false, false, false, true], _, h => b100001TopIds off n cap
  | [true, false, false, false, true, false], _, h => b100010TopIds off n cap
  | [true, false, false, false, true, true], _, h => b100011TopIds off n cap
  | [true, false, false, true, false, false], _, h => b100100TopIds off n cap
  | [true, false, false, true, false, true], _, h => b100101TopIds off n cap
  | [true, false, false, true, true, false], _, h => b100110TopIds off n cap
  | [true, false, false, true, true, true], _, h => b100111TopIds off n cap
  | [true, false, true, false, false, false], _, h => b101000TopIds off n cap
  | [true, false, true, false, false, true], _, h => b101001TopIds off n cap
  | [true, false, true, false, true, false], _, h => b101010TopIds off n cap
  | [true, false, true, false, true, true], _, h => b101011TopIds off n cap
  | [true, false, true, true, false, false], _, h => b101100TopIds off n cap
  | [true, false, true, true, false, true], _, h => b101101TopIds off n cap
  | [true, false, true, true, true, false], _, h => b101110TopIds off n cap
  | [true, false, true, true, true, true], _, h => nomatch (show true = false from h)
  | [true, true, false, false, false, false], _, h => b110000TopIds off n cap
  | [true, true, false, false, false, true], _, h => b110001TopIds off n cap
  | [true, true, false, false, true, false], _, h => b110010TopIds off n cap
  | [true, true, false, false, true, true], _, h => b110011TopIds off n cap
  | [true, true, false, true, false, false], _, h => b110100TopIds off n cap
  | [true, true, false, true, false, true], _, h => b110101TopIds off n cap
  | [true, true, false, true, true, false], _, h => b110110TopIds off n cap
  | [true, true, false, true, true, true], _, h => nomatch (show true = false from h)
  | [true, true, true, false, false, false], _, h => b111000TopIds off n cap
  | [true, true, true, false, false, true], _, h => b111001TopIds off n cap
  | [true, true, true, false, true, false], _, h => b111010TopIds off n cap
  | [true, true, true, false, true, true], _, h => nomatch (show true = false from h)
  | [true, true, true, true, false, false], _, h => b111100TopIds off n cap
  | [true, true, true, true, false, true], _, h => nomatch (show true = false from h)
  | [true, true, true, true, true, false], _, h => nomatch (show true = false from h)
  | [true, true, true, true, true, true], _, h => nomatch (show true = false from h)
theorem exa4 (off n cap : Nat) : ∀ q : List Bool, q.length = 2 → allL 2 (fun p => oneTopIds off n cap p true) q = true
  | [false, false], _ => x00TopIds off n cap
  | [false, true], _ => x01TopIds off n cap
  | [true, false], _ => x10TopIds off n cap
  | [true, true], _ => x11TopIds off n cap
theorem exa5 (off n cap : Nat) : ∀ q : List Bool, q.length = 3 → allL 2 (fun p => oneTopIds off n cap p true) q = true
  | [false, false, false], _ => x000TopIds off n cap
  | [false, false, true], _ => x001TopIds off n cap
  | [false, true, false], _ => x010TopIds off n cap
  | [false, true, true], _ => x011TopIds off n cap
  | [true, false, false], _ => x100TopIds off n cap
  | [true, false, true], _ => x101TopIds off n cap
  | [true, true, false], _ => x110TopIds off n cap
  | [true, true, true], _ => x111TopIds off n cap
theorem lng6 (off n cap : Nat) : ∀ p : List Bool, p.length = 6 → Nat.ble 5 (p.count true) = true → oneTopIds off n cap p true = true
  | [false, false, false, false, false, false], _, h => nomatch (show false = true from h)
  | [false, false, false, false, false, true], _, h => nomatch (show false = true from h)
  | [false, false, false, false, true, false], _, h => nomatch (show false = true from h)
  | [false, false, false, false, true, true], _, h => nomatch (show false = true from h)
  | [false, false, false, true, false, false], _, h => nomatch (show false = true from h)
  | [false, false, false, true, false, true], _, h => nomatch (show false = true from h)
  | [false, false, false, true, true, false], _, h => nomatch (show false = true from h)
  | [false, false, false, true, true, true], _, h => nomatch (show false = true from h)
  | [false, false, true, false, false, false], _, h => nomatch (show false = true from h)
  | [false, false, true, false, false, true], _, h => nomatch (show false = true from h)
  | [false, false, true, false, true, false], _, h => nomatch (show false = true from h)
  | [false, false, true, false, true, true], _, h => nomatch (show false = true from h)
  | [false, false, true, true, false, false], _, h => nomatch (show false = true from h)
  | [false, false, true, true, false, true], _, h => nomatch (show false = true from h)
  | [false, false, true, true, true, false], _, h => nomatch (show false = true from h)
  | [false, false, true, true, true, true], _, h => nomatch (show false = true from h)
  | [false, true, false, false, false, false], _, h => nomatch (show false = true from h)
  | [false, true, false, false, false, true], _, h => nomatch (show false = true from h)
  | [false, true, false, false, true, false], _, h => nomatch (show false = true from h)
  | [false, true, false, false, true, true], _, h => nomatch (show false = true from h)
  | [false, true, false, true, false, false], _, h => nomatch (show false = true from h)
  | [false, true, false, true, false, true], _, h => nomatch (show false = true from h)
  | [false, true, false, true, true, false], _, h => nomatch (show false = true from h)
  | [false, true, false, true, true, true], _, h => nomatch (show false = true from h)
  | [false, true, true, false, false, false], _, h => nomatch (show false = true from h)
  | [false, true, true, false, false, true], _, h => nomatch (show false = true from h)
  | [false, true, true, false, true, false], _, h => nomatch (show false = true from h)
  | [false, true, true, false, true, true], _, h => nomatch (show false = true from h)
  | [false, true, true, true, false, false], _, h => nomatch (show false = true from h)
  | [false, true, true, true, false, true], _, h => nomatch (show false = true from h)
  | [false, true, true, true, true, false], _, h => nomatch (show false = true from h)
  | [false, true, true, true, true, true], _, h => e011111TopIds off n cap
  | [true, false, false, false, false, false], _, h => nomatch (show false = true from h)
  | [true, false, false, false, false, true], _, h => nomatch (show false = true from h)
  | [true, false, false, false, true, false], _, h => nomatch (show false = true from h)
  | [true, false, false, false, true, true], _, h => nomatch (show false = true from h)
  | [true, false, false, true, false, false], _, h => nomatch (show false = true from h)
  | [true, false, false, true, false, true], _, h => nomatch (show false = true from h)
  | [true, false, false, true, true, false], _, h => nomatch (show false = true from h)
  | [true, false, false, true, true, true], _, h => nomatch (show false = true from h)
  | [true, false, true, false, false, false], _, h => nomatch (show false = true from h)
  | [true, false, true, false, false, true], _, h => nomatch (show false = true from h)
  | [true, false, true, false, true, false], _, h => nomatch (show false = true from h)
  | [true, false, true, false, true, true], _, h => nomatch (show false = true from h)
  | [true, false, true, true, false, false], _, h => nomatch (show false = true from h)
  | [true, false, true, true, false, true], _, h => nomatch (show false = true from h)
  | [true, false, true, true, true, false], _, h => nomatch (show false = true from h)
  | [true, false, true, true, true, true], _, h => e101111TopIds off n cap
  | [true, true, false, false, false, false], _, h => nomatch (show false = true from h)
  | [true, true, false, false, false, true], _, h => nomatch (show false = true from h)
  | [true, true, false, false, true, false], _, h => nomatch (show false = true from h)
  | [true, true, false, false, true, true], _, h => nomatch (show false = true from h)
  | [true, true, false, true, false, false], _, h => nomatch (show false = true from h)
  | [true, true, false, true, false, true], _, h => nomatch (show false = true from h)
  | [true, true, false, true, true, false], _, h => nomatch (show false = true from h)
  | [true, true, false, true, true, true], _, h => e110111TopIds off n cap
  | [true, true, true, false, false, false], _, h => nomatch (show false = true from h)
  | [true, true, true, false, false, true], _, h => nomatch (show false = true from h)
  | [true, true, true, false, true, false], _, h => nomatch (show false = true from h)
  | [true, true, true, false, true, true], _, h => e111011TopIds off n cap
  | [true, true, true, true, false, false], _, h => nomatch (show false = true from h)
  | [true, true, true, true, false, true], _, h => e111101TopIds off n cap
  | [true, true, true, true, true, false], _, h => e111110TopIds off n cap
  | [true, true, true, true, true, true], _, h => e111111TopIds off n cap
theorem lng7 (off n cap : Nat) : ∀ p : List Bool, p.length = 7 → Nat.ble 5 ((p.take 6).count true) = true → oneTopIds off n cap p false = true
  | [false, false, false, false, false, false, false], _, h => nomatch (show false = true from h)
  | [false, false, false, false, false, false, true], _, h => nomatch (show false = true from h)
  | [false, false, false, false, false, true, false], _, h => nomatch (show false = true from h)
  | [false, false, false, false, false, true, true], _, h => nomatch (show false = true from h)
  | [false, false, false, false, true, false, false], _, h => nomatch (show false = true from h)
  | [false, false, false, false, true, false, true], _, h => nomatch (show false = true from h)
  | [false, false, false, false, true, true, false], _, h => nomatch (show false = true from h)
  | [false, false, false, false, true, true, true], _, h => nomatch (show false = true from h)
  | [false, false, false, true, false, false, false], _, h => nomatch (show false = true from h)
  | [false, false, false, true, false, false, true], _, h => nomatch (show false = true from h)
  | [false, false, false, true, false, true, false], _, h => nomatch (show false = true from h)
  | [false, false, false, true, false, true, true], _, h => nomatch (show false = true from h)
  | [false, false, false, true, true, false, false], _, h => nomatch (show false = true from h)
  | [false, false, false, true, true, false, true], _, h => nomatch (show false = true from h)
  | [false, false, false, true, true, true, false], _, h => nomatch (show false = true from h)
  | [false, false, false, true, true, true, true], _, h => nomatch (show false = true from h)
  | [false, false, true, false, false, false, false], _, h => nomatch (show false = true from h)
  | [false, false, true, false, false, false, true], _, h => nomatch (show false = true from h)
  | [false, false, true, false, false, true, false], _, h => nomatch (show false = true from h)
  | [false, false, true, false, false, true, true], _, h => nomatch (show false = true from h)
  | [false, false, true, false, true, false, false], _, h => nomatch (show false = true from h)
  | [false, false, true, false, true, false, true], _, h => nomatch (show false = true from h)
  | [false, false, true, false, true, true, false], _, h => nomatch (show false = true from h)
  | [false, false, true, false, true, true, true], _, h => nomatch (show false = true from h)
  | [false, false, true, true, false, false, false], _, h => nomatch (show false = true from h)
  | [false, false, true, true, false, false, true], _, h => nomatch (show false = true from h)
  | [false, false, true, true, false, true, false], _, h => nomatch (show false = true from h)
  | [false, false, true, true, false, true, true], _, h => nomatch (show false = true from h)
  | [false, false, true, true, true, false, false], _, h => nomatch (show false = true from h)
  | [false, false, true, true, true, false, true], _, h => nomatch (show false = true from h)
  | [false, false, true, true, true, true, false], _, h => nomatch (show false = true from h)
  | [false, false, true, true, true, true, true], _, h => nomatch (show false = true from h)
  | [false, true, false, false, false, false, false], _, h => nomatch (show false = true from h)
  | [false, true, false, false, false, false, true], _, h => nomatch (show false = true from h)
  | [false, true, false, false, false, true, false], _, h => nomatch (show false = true from h)
  | [false, true, false, false, false, true, true], _, h => nomatch (show false = true from h)
  | [false, true, false, false, true, false, false], _, h => nomatch (show false = true from h)
  | [false, true, false, false, true, false, true], _, h => nomatch (show false = true from h)
  | [false, true, false, false, true, true, false], _, h => nomatch (show false = true from h)
  | [false, true, false, false, true, true, true], _, h => nomatch (show false = true from h)
  | [false, true, false, true, false, false, false], _, h => nomatch (show false = true from h)
  | [false, true, false, true, false, false, true], _, h => nomatch (show false = true from h)
  | [false, true, false, true, false, true, false], _, h => nomatch (show false = true from h)
  | [false, true, false, true, false, true, true], _, h => nomatch (show false = true from h)
  | [false, true, false, true, true, false, false], _, h => nomatch (show false = true from h)
  | [false, true, false, true, true, false, true], _, h => nomatch (show false = true from h)
  | [false, true, false, true, true, true, false], _, h => nomatch (show false = true from h)
  | [false, true, false, true, true, true, true], _, h => nomatch (show false = true from h)
  | [false, true, true, false, false, false, false], _, h => nomatch (show false = true from h)
  | [false, true, true, false, false, false, true], _, h => nomatch (show false = true from h)
  | [false, true, true, false, false, true, false], _, h => nomatch (show false = true from h)
  | [false, true, true, false, false, true, true], _, h => nomatch (show false = true from h)
  | [false, true, true, false, true, false, false], _, h => nomatch (show false = true from h)
  | [false, true, true, false, true, false, true], _, h => nomatch (show false = true from h)
  | [false, true, true, false, true, true, false], _, h => nomatch (show false = true from h)
  | [false, true, true, false, true, true, true], _, h => nomatch (show false = true from h)
  | [false, true, true, true, false, false, false], _, h => nomatch (show false = true from h)
  | [false, true, true, true, false, false, true], _, h => nomatch (show false = true from h)
  | [false, true, true, true, false, true, false], _, h => nomatch (show false = true from h)
  | [false, true, true, true, false, true, true], _, h => nomatch (show false = true from h)
  | [false, true, true, true, true, false, false], _, h => nomatch (show false = true from h)
  | [false, true, true, true, true, false, true], _, h => nomatch (show false = true from h)
  | [false, true, true, true, true, true, false], _, h => b0111110TopIds off n cap
  | [false, true, true, true, true, true, true], _, h => b0111111TopIds off n cap
  | [true, false, false, false, false, false, false], _, h => nomatch (show false = true from h)
  | [true, false, false, false, false, false, true], _, h => nomatch (show false = true from h)
  | [true, false, false, false, false, true, false], _, h => nomatch (show false = true from h)
  | [true, false, false, false, false, true, true], _, h => nomatch (show false = true from h)
  | [true, false, false, false, true, false, false], _, h => nomatch (show false = true from h)
  | [true, false, false, false, true, false, true], _, h => nomatch (show false = true from h)
  | [true, false, false, false, true, true, false], _, h => nomatch (show false = true from h)
  | [true, false, false, false, true, true, true], _, h => nomatch (show false = true from h)
  | [true, false, false, true, false, false, false], _, h => nomatch (show false = true from h)
  | [true, false, false, true, false, false, true], _, h => nomatch (show false = true from h)
  | [true, false, false, true, false, true, false], _, h => nomatch (show false = true from h)
  | [true, false, false, true, false, true, true], _, h => nomatch (show false = true from h)
  | [true, false, false, true, true, false, false], _, h => nomatch (show false = true from h)
  | [true, false, false, true, true, false, true], _, h => nomatch (show false = true from h)
  | [true, false, false, true, true, true, false], _, h => nomatch (show false = true from h)
  | [true, false, false, true, true, true, true], _, h => nomatch (show false = true from h)
  | [true, false, true, false, false, false, false], _, h => nomatch (show false = true from h)
  | [true, false, true, false, false, false, true], _, h => nomatch (show false = true from h)
  | [true, false, true, false, false, true, false], _, h => nomatch (show false = true from h)
  | [true, false, true, false, false, true, true], _, h => nomatch (show false = true from h)
  | [true, false, true, false, true, false, false], _, h => nomatch (show false = true from h)
  | [true, false, true, false, true, false, true], _, h => nomatch (show false = true from h)
  | [true, false, true, false, true, true, false], _, h => nomatch (show false = true from h)
  | [true, false, true, false, true, true, true], _, h => nomatch (show false = true from h)
  | [true, false, true, true, false, false, false], _, h => nomatch (show false = true from h)
  | [true, false, true, true, false, false, true], _, h => nomatch (show false = true from h)
  | [true, false, true, true, false, true, false], _, h => nomatch (show false = true from h)
  | [true, false, true, true, false, true, true], _, h => nomatch (show false = true from h)
  | [true, false, true, true, true, false, false], _, h => nomatch (show false = true from h)
  | [true, false, true, true, true, false, true], _, h => nomatch (show false = true from h)
  | [true, false, true, true, true, true, false], _, h => b1011110TopIds off n cap
  | [true, false, true, true, true, true, true], _, h => b1011111TopIds off n cap
  | [true, true, false, false, false, false, false], _, h => nomatch (show false = true from h)
  | [true, true, false, false, false, false, true], _, h => nomatch (show false = true from h)
  | [true, true, false, false, false, true, false], _, h => nomatch (show false = true from h)
  | [true, true, false, false, false, true, true], _, h => nomatch (show false = true from h)
  | [true, true, false, false, true, false, false], _, h => nomatch (show false = true from h)
  | [true, true, false, false, true, false, true], _, h => nomatch (show false = true from h)
  | [true, true, false, false, true, true, false], _, h => nomatch (show false = true from h)
  | [true, true, false, false, true, true, true], _, h => nomatch (show false = true from h)
  | [true, true, false, true, false, false, false], _, h => nomatch (show false = true from h)
  | [true, true, false, true, false, false, true], _, h => nomatch (show false = true from h)
  | [true, true, false, true, false, true, false], _, h => nomatch (show false = true from h)
  | [true, true, false, true, false, true, true], _, h => nomatch (show false = true from h)
  | [true, true, false, true, true, false, false], _, h => nomatch (show false = true from h)
  | [true, true, false, true, true, false, true], _, h => nomatch (show false = true from h)
  | [true, true, false, true, true, true, false], _, h => b1101110TopIds off n cap
  | [true, true, false, true, true, true, true], _, h => b1101111TopIds off n cap
  | [true, true, true, false, false, false, false], _, h => nomatch (show false = true from h)
  | [true, true, true, false, false, false, true], _, h => nomatch (show false = true from h)
  | [true, true, true, false, false, true, false], _, h => nomatch (show false = true from h)
  | [true, true, true, false, false, true, true], _, h => nomatch (show false = true from h)
  | [true, true, true, false, true, false, false], _, h => nomatch (show false = true from h)
  | [true, true, true, false, true, false, true], _, h => nomatch (show false = true from h)
  | [true, true, true, false, true, true, false], _, h => b1110110TopIds off n cap
  | [true, true, true, false, true, true, true], _, h => b1110111TopIds off n cap
  | [true, true, true, true, false, false, false], _, h => nomatch (show false = true from h)
  | [true, true, true, true, false, false, true], _, h => nomatch (show false = true from h)
  | [true, true, true, true, false, true, false], _, h => b1111010TopIds off n cap
  | [true, true, true, true, false, true, true], _, h => b1111011TopIds off n cap
  | [true, true, true, true, true, false, false], _, h => b1111100TopIds off n cap
  | [true, true, true, true, true, false, true], _, h => b1111101TopIds off n cap
  | [true, true, true, true, true, true, false], _, h => b1111110TopIds off n cap
  | [true, true, true, true, true, true, true], _, h => b1111111TopIds off n cap
theorem pick (off n cap : Nat) (l : List Bool) (h0 : 0 < l.length) : ∃ p ex, p <+: l ∧ (ex = true → p.length = l.length) ∧ oneTopIds off n cap p ex = true := by
  rcases Nat.lt_or_ge l.length 4 with h | h
  · exact ⟨l, true, List.prefix_refl _, fun _ => rfl, allP_ok (shortTopIds1 off n cap) l (by omega) (by omega)⟩
  rcases Nat.lt_or_ge l.length 5 with h | h
  · refine ⟨l, true, List.prefix_refl _, fun _ => rfl, ?_⟩
    have q := allL_ok 2 _ (exa4 off n cap (l.take 2) (by rw [List.length_take]; omega)) (l.drop 2) (by rw [List.length_drop]; omega)
    rw [List.take_append_drop] at q; exact q
  rcases Nat.lt_or_ge l.length 6 with h | h
  · refine ⟨l, true, List.prefix_refl _, fun _ => rfl, ?_⟩
    have q := allL_ok 2 _ (exa5 off n cap (l.take 3) (by rw [List.length_take]; omega)) (l.drop 3) (by rw [List.length_drop]; omega)
    rw [List.take_append_drop] at q; exact q
  cases hc : Nat.ble 5 ((l.take 6).count true) with
  | false => exact ⟨l.take 6, false, List.take_prefix _ _, fun q => (by cases q), long off n cap _ (by rw [List.length_take]; omega) hc⟩
  | true =>
    rcases Nat.lt_or_ge l.length 7 with h2 | h2
    · refine ⟨l, true, List.prefix_refl _, fun _ => rfl, ?_⟩
      have e : l.take 6 = l := List.take_of_length_le (by omega)
      rw [e] at hc
      exact lng6 off n cap l (by omega) hc
    · exact ⟨l.take 7, false, List.take_prefix _ _, fun q => (by cases q), lng7 off n cap _ (by rw [List.length_take]; omega) (by rw [List.take_take, show min 6 7 = 6 from rfl]; exact hc)⟩
set_option maxRecDepth 8000 in
theorem walk (w : World) (ao : Option Addr) (len cap : Nat) (l : List Bool) (h : IsBo w ao len cap l) : Calls Tryz.prog 7 #[.slice ao len cap] w fun e w' => e = .returned (.bool true) ∧ Keep NoF w w' := by
  go_enter Tryz.func7, Tryz.ntmps7
  go_wp2_with fail
  refine (begtop w).mono ?_
  rintro e w1 ⟨rfl, hk⟩
  have K1 := Lib.hid hk
  clear hk
  go_upto_region 4 with fail
  cases h with
  | nil => exact rest_D (fn := Tryz.f7) (by assumption) K1.out (setP (some .ns) (path 0) .lf) (of_decide_eq_true (by kernel_rfl)) rfl (TR1 rfl) (by kernel_rfl) nilTopIds
  | emp x c => exact rest_D (fn := Tryz.f7) (by assumption) K1.out (setP (some .se) (path 0) .lf) (of_decide_eq_true (by kernel_rfl)) rfl (TR1 ⟨x, cap, rfl⟩) (by kernel_rfl) seTopIds
  | row g off c l hl lt hc =>
    obtain ⟨p, ex, hp, hex, hone⟩ := pick off l.length cap l hl
    refine rest_C (fn := Tryz.f7) (sp := spTopIds p ex) (Ag := ⟨g, off, cap, l⟩) (p := p) (ex := ex) ?_ ?_ (by assumption) K1.out (Nat.lt_of_lt_of_le lt K1.out.size) (fun i hi => K1.out.cell' (hc i hi) (fun q => q)) hp hex (α0 off l.length cap) (get_set _ _ _) (of_decide_eq_true (by kernel_rfl)) rfl (TR1 ⟨g, 0, ren_e g, rfl⟩) (by kernel_rfl) hone
    · kernel_rfl
    · simp only [allR_seq, allR_cond, allR_block, allR_loop, allR_region, allR_skip, allR_ret, allR_exit]
      and_intros
      all_goals first
        | exact trivial
        | exact fun F q => nomatch (show (none : Option (SpF (List Bool))) = some F from q)
        | exact fun F q => by cases (show some (Ftest p ex 16 6 8) = some F from q); exact test_ok (b := 16) (ib := 6) (K := 8) (by decide) (by decide) (by decide)
        | exact fun F q => by cases (show some (Fload 37 6) = some F from q); exact load_ok (b := 37) (ib := 6) (by decide) (by decide) (by decide)

set_option linter.unusedVariables false
set_option maxRecDepth 100000 in
theorem lifted (os : Os) (started : os.Started) (H : Type) (enc : TypeId × Value → H) :
    ReturnsInHanded {} Tryz.checked os 7 .any (Rows.topIdsSpec.pre6 enc Tryz.prog Tryz.f7 Rows.topIdsRow.domain false) (Rows.topIdsSpec.post enc Tryz.prog Tryz.f7 false true false false) := by
  refine returnsInHanded_of_change (C := Tryz.checked) own started (by kernel_rfl) Tryz.func7
    (ChangeSpec.witness6 (enc := enc) (C := Tryz.checked) false ⟨#[], #[.slice none 0 0], []⟩ 8 (by kernel_rfl) (by kernel_rfl) (by kernel_rfl) (by kernel_rfl)) ?_
  intro W base args ds gs before hval0 hW hcnd _
  have hval : ∀ (j : Nat) t v, Tryz.f7.params[j]? = some t → args[j]? = some v → Value.okWide Tryz.prog W .any base t v := hval0
  have hW' := hW
  obtain ⟨p, q, hA0, hV, rfl, hfz, hnd⟩ := hW
  have hA : DataW.TrodAll enc Tryz.prog W 0 (fun _ => true) true Tryz.f7.params.toList args.toList ds p := hA0
  rw [Tryz.params7] at hA hval
  obtain ⟨v0, vs0, d0, ds0, p0, q0, hargs, rfl, rfl, h0, r0⟩ := trodAll_cons hA
  obtain ⟨rfl, rfl, rfl⟩ := trodAll_nil r0
  obtain rfl : args = #[v0] := by cases args; simp_all
  obtain ⟨rfl, rfl⟩ := trodVars_none hV
  obtain ⟨a0, len0, cap0, rfl⟩ := okWide_slice Tryz.underlying22 (hval 0 22 v0 rfl rfl)
  have k0 := h0
  have lt0 : ∀ x ∈ p0, x.block < W.heap.size := by obtain ⟨m, hm⟩ := k0; exact DataW.trod_lt m _ _ _ hm
  obtain ⟨z0, w0⟩ := open_arg0 W base h0
  clear hA0 hval0
  refine (walk W a0 len0 cap0 z0 w0).mono fun e W' ⟨he, hk⟩ => ?_
  subst he
  have bel := Keep.below hk
  exact ⟨_, rfl, _, _, _, [], _, [], hW', trodAll_mk1 (shut_bool Tryz.underlying4 _), (trodAll_cons_mk (Below.trod laidOut (by kernel_rfl) (of_decide_eq_true (by kernel_rfl)) k0 bel lt0) trodAll_mk0), rfl, bel.frame _, fun h => by cases h⟩

theorem over : Rows.topIdsRow.holds Tryz.pinned (OpenSpec.ofChange Rows.topIdsSpec) :=
  OpenClaim.holds_of_wide 7 Tryz.f7 rfl rfl rfl rfl rfl rfl rfl ⟨rfl, rfl, rfl, rfl, rfl⟩ rfl rfl rfl rfl rfl facName Tryz.func7 (joined_of facLaid facMaps facPlace facUnf facRec facNamed facKeys facHeard facEnter facLift facMake (by kernel_rfl))
    (of_decide_eq_true (by kernel_rfl)) (by unfold Func.isWrapper; rw [if_neg (of_decide_eq_false (by kernel_rfl))]; exact ⟨rfl, rfl⟩)
    (fun os started H enc _ => lifted os started H enc)

/-- The statement. -/
theorem proved : Rows.TopIdsSaid := over
#print axioms proved
end Go.Proofs.YtkjdclpneaepkaaGreat.topIds
