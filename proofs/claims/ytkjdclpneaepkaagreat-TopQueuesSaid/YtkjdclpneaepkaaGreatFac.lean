/- What the frame of a law asks of the program, in parts: each is reckoned once. -/
import Derived.Test.YtkjdclpneaepkaaGreatRows
import Derived.JoinedOf
import Derived.KernelRfl
open Go
namespace Go.Proofs.YtkjdclpneaepkaaGreat
def restFacts (P : Program) (fn : Func) (s : ChangeSpec) (c : OpenClaim) : Bool :=
  c.wf (OpenSpec.ofChange s) && fn.params.all (P.readableRec ·) && namedTie P c.named s.vars && (c.stops == []) && (P.stops == []) && (c.knobs == []) && (P.stopKnobs == []) && (c.maps == (fn.params.toList ++ s.plain.varTypes P).any (P.mapsRec ·)) && (c.ifaces == (fn.params.toList ++ s.plain.varTypes P).any (P.ifacesRec ·)) && (c.mapsOut == P.mapsAmong fn.resultTypes.toList) && (c.loops == (fn.params.toList ++ s.plain.varTypes P).any (P.loopsFrom ·)) && (c.wideKeys == (fn.params.toList ++ s.plain.varTypes P ++ fn.resultTypes.toList).any (P.wideKeysFrom ·)) && s.vars.all (P.varReadable ·) && fn.resultTypes.all (fun t => P.readableRec t && decide (t < P.types.size)) && (c.ifacesOut == fn.resultTypes.toList.any (P.ifacesRec ·)) && (c.loopsOut == fn.resultTypes.toList.any (P.loopsFrom ·)) && c.shortTexts.isNone && (c.kinds == (if c.domain.isEmpty then [] else fn.params.toList.map fun t => match P.underlying t with | some (.int k) => some k | _ => none)) && (c.pinned == c.pinnedBy) && (c.veiled == (fn.params.toList ++ s.plain.varTypes P ++ fn.resultTypes.toList).any (P.veiledRec ·)) && c.veiledFits P fn.params.toList (fn.params.toList ++ s.plain.varTypes P ++ fn.resultTypes.toList)
theorem joined_of {P : Program} {f : FuncId} {fn : Func} {s : ChangeSpec} {c : OpenClaim} (h1 : laidOutB P = true) (h2 : mapsRowed P = true) (h9 : (c.inPlace == P.inPlace f) = true) (h10 : (c.unfollowed == P.unfollowed f) = true) (h11 : (c.recurses == P.recurses f) = true) (h12 : (c.named == P.varsNamed f) = true) (h22 : (c.plainKeys == P.plainKeys) = true) (h24 : P.stopsHeard = true) (h25 : P.mayEnter = true) (h26 : (c.lifted == P.liftsFinal) = true) (h27 : (P.make == some c.make) = true) (hr : restFacts P fn s c = true) : joinedFacts P f fn s c = true := by
  simp only [restFacts, Bool.and_eq_true] at hr
  obtain ⟨⟨⟨⟨⟨⟨⟨⟨⟨⟨⟨⟨⟨⟨⟨⟨⟨⟨⟨⟨g0, g3⟩, g4⟩, g5⟩, g6⟩, g7⟩, g8⟩, g13⟩, g14⟩, g15⟩, g16⟩, g17⟩, g18⟩, g19⟩, g20⟩, g21⟩, g23⟩, g28⟩, g29⟩, g30⟩, g31⟩ := hr
  simp only [joinedFacts, Bool.and_eq_true]
  exact ⟨⟨⟨⟨⟨⟨⟨⟨⟨⟨⟨⟨⟨⟨⟨⟨⟨⟨⟨⟨⟨⟨⟨⟨⟨⟨⟨⟨⟨⟨⟨g0, h1⟩, h2⟩, g3⟩, g4⟩, g5⟩, g6⟩, g7⟩, g8⟩, h9⟩, h10⟩, h11⟩, h12⟩, g13⟩, g14⟩, g15⟩, g16⟩, g17⟩, g18⟩, g19⟩, g20⟩, g21⟩, h22⟩, g23⟩, h24⟩, h25⟩, h26⟩, h27⟩, g28⟩, g29⟩, g30⟩, g31⟩
theorem facLaid : laidOutB Tryz.prog = true := by kernel_rfl
theorem facMaps : mapsRowed Tryz.prog = true := by kernel_rfl
theorem facHeard : Tryz.prog.stopsHeard = true := by kernel_rfl
theorem facKeys : (Rows.topHiddenRow.plainKeys == Tryz.prog.plainKeys) = true := by kernel_rfl
theorem facLift : (Rows.topHiddenRow.lifted == Tryz.prog.liftsFinal) = true := by kernel_rfl
theorem facMake : (Tryz.prog.make == some Rows.topHiddenRow.make) = true := by kernel_rfl
theorem facEnter : Tryz.prog.mayEnter = true := by kernel_rfl
end Go.Proofs.YtkjdclpneaepkaaGreat
