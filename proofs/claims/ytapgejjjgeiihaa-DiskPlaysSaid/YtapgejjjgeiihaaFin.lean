/- What each law's end leans on: facts of the program's own, each once. -/
import Derived.Test.YtapgejjjgeiihaaTab
import Derived.Test.YtapgejjjgeiihaaEng8
import Derived.Test.YtapgejjjgeiihaaRows
namespace Go.Proofs.Ytapgejjjgeiihaa
open Go Go.Sl
theorem Try.own : ownKnob Try.prog.godebug = none := by kernel_rfl
theorem Try.laidOut : laidOutB Try.prog = true := by kernel_rfl
theorem Try.same : Try.checked.prog = Try.prog := by delta Try.checked; rfl
/-- how the program was cut, and may be entered -/
theorem Try.start : (Try.prog.mayEnter && !Try.prog.liftsFinal && (Try.prog.make == some .cut)) = true := by kernel_rfl
theorem Try.mayEnter : Try.prog.mayEnter = true := by have := Try.start; simp only [Bool.and_eq_true] at this; exact this.1.1
theorem Try.lifts : Try.prog.liftsFinal = false := by have := Try.start; simp only [Bool.and_eq_true, Bool.not_eq_true'] at this; exact this.1.2
theorem Try.made : Try.prog.make = some .cut := by have := Try.start; simp only [Bool.and_eq_true, beq_iff_eq] at this; exact this.2
/-- the facts of a row that are not the program's alone -/
def restFacts (P : Program) (f : FuncId) (fn : Func) (s : ChangeSpec) (c : OpenClaim) : Bool :=
  c.wf (OpenSpec.ofChange s) && mapsRowed P &&
  fn.params.all (P.readableRec ·) && namedTie P (P.varsNamed f) s.vars &&
  (c.stops == []) && (P.stops == []) && (c.knobs == []) && (P.stopKnobs == []) &&
  (c.inPlace == P.inPlace f) && (c.unfollowed == P.unfollowed f) && (c.recurses == P.recurses f) && (c.named == P.varsNamed f) &&
  (c.maps == (fn.params.toList ++ s.plain.varTypes P).any (P.mapsRec ·)) && (c.ifaces == (fn.params.toList ++ s.plain.varTypes P).any (P.ifacesRec ·)) && (c.mapsOut == P.mapsAmong fn.resultTypes.toList) &&
  (c.loops == (fn.params.toList ++ s.plain.varTypes P).any (P.loopsFrom ·)) && (c.wideKeys == (fn.params.toList ++ s.plain.varTypes P ++ fn.resultTypes.toList).any (P.wideKeysFrom ·)) &&
  s.vars.all (P.varReadable ·) && fn.resultTypes.all (fun t => P.readableRec t && decide (t < P.types.size)) && (c.ifacesOut == fn.resultTypes.toList.any (P.ifacesRec ·)) && (c.loopsOut == fn.resultTypes.toList.any (P.loopsFrom ·)) && (c.plainKeys == P.plainKeys) && c.shortTexts.isNone && P.stopsHeard && (c.lifted == false) && (c.make == .cut) && (c.kinds == []) && c.domain.isEmpty && (c.pinned == c.pinnedBy) &&
  (c.veiled == (fn.params.toList ++ s.plain.varTypes P ++ fn.resultTypes.toList).any (P.veiledRec ·)) && c.veiledFits P fn.params.toList (fn.params.toList ++ s.plain.varTypes P ++ fn.resultTypes.toList)
set_option maxRecDepth 20000 in
theorem Try.joined {f : FuncId} {fn : Func} {s : ChangeSpec} {c : OpenClaim} (h : restFacts Try.prog f fn s c = true) : joinedFacts Try.checked.prog f fn s c = true := by
  rw [Try.same]
  simp only [restFacts, joinedFacts, Bool.and_eq_true, Try.laidOut, Try.lifts, Try.mayEnter, Try.made, true_and, beq_iff_eq] at h ⊢
  simp only [h, and_true, if_true]
end Go.Proofs.Ytapgejjjgeiihaa
