/-
  THE CLOSED FACTS OF A ROW, one by one. Printed by a program (mkfacts.py).
-/
import Derived.Test.YtmnepjoaggdhpabGreatRows
import Derived.ProofKit
namespace Go.Proofs.YtmnepjoaggdhpabGreat
set_option maxRecDepth 100000
theorem closed0 : Rows.nodeNobodyRow.wf (OpenSpec.ofChange Rows.nodeNobodySpec) = true := by kernel_rfl
theorem closed1 : laidOutB Tryz.prog = true := by kernel_rfl
theorem closed2 : mapsRowed Tryz.prog = true := by kernel_rfl
theorem closed3 : Tryz.f3.params.all (Tryz.prog.readableRec ·) = true := by kernel_rfl
theorem closed4 : namedTie Tryz.prog Rows.nodeNobodyRow.named Rows.nodeNobodySpec.vars = true := by kernel_rfl
theorem closed5 : (Rows.nodeNobodyRow.stops == []) = true := by kernel_rfl
theorem closed6 : (Tryz.prog.stops == []) = true := by kernel_rfl
theorem closed7 : (Rows.nodeNobodyRow.knobs == []) = true := by kernel_rfl
theorem closed8 : (Tryz.prog.stopKnobs == []) = true := by kernel_rfl
theorem closed9 : (Rows.nodeNobodyRow.inPlace == Tryz.prog.inPlace 3) = true := by kernel_rfl
theorem closed10 : (Rows.nodeNobodyRow.unfollowed == Tryz.prog.unfollowed 3) = true := by kernel_rfl
theorem closed11 : (Rows.nodeNobodyRow.recurses == Tryz.prog.recurses 3) = true := by kernel_rfl
theorem closed12 : (Rows.nodeNobodyRow.named == Tryz.prog.varsNamed 3) = true := by kernel_rfl
theorem closed13 : (Rows.nodeNobodyRow.maps == (Tryz.f3.params.toList ++ Rows.nodeNobodySpec.plain.varTypes Tryz.prog).any (Tryz.prog.mapsRec ·)) = true := by kernel_rfl
theorem closed14 : (Rows.nodeNobodyRow.ifaces == (Tryz.f3.params.toList ++ Rows.nodeNobodySpec.plain.varTypes Tryz.prog).any (Tryz.prog.ifacesRec ·)) = true := by kernel_rfl
theorem closed15 : (Rows.nodeNobodyRow.mapsOut == Tryz.prog.mapsAmong Tryz.f3.resultTypes.toList) = true := by kernel_rfl
theorem closed16 : (Rows.nodeNobodyRow.loops == (Tryz.f3.params.toList ++ Rows.nodeNobodySpec.plain.varTypes Tryz.prog).any (Tryz.prog.loopsFrom ·)) = true := by kernel_rfl
theorem closed17 : (Rows.nodeNobodyRow.wideKeys == (Tryz.f3.params.toList ++ Rows.nodeNobodySpec.plain.varTypes Tryz.prog ++ Tryz.f3.resultTypes.toList).any (Tryz.prog.wideKeysFrom ·)) = true := by kernel_rfl
theorem closed18 : Rows.nodeNobodySpec.vars.all (Tryz.prog.varReadable ·) = true := by kernel_rfl
theorem closed19 : Tryz.f3.resultTypes.all (fun t => Tryz.prog.readableRec t && decide (t < Tryz.prog.types.size)) = true := by kernel_rfl
theorem closed20 : (Rows.nodeNobodyRow.ifacesOut == Tryz.f3.resultTypes.toList.any (Tryz.prog.ifacesRec ·)) = true := by kernel_rfl
theorem closed21 : (Rows.nodeNobodyRow.loopsOut == Tryz.f3.resultTypes.toList.any (Tryz.prog.loopsFrom ·)) = true := by kernel_rfl
theorem closed22 : (Rows.nodeNobodyRow.plainKeys == Tryz.prog.plainKeys) = true := by kernel_rfl
theorem closed23 : Rows.nodeNobodyRow.shortTexts.isNone = true := by kernel_rfl
theorem closed24 : Tryz.prog.stopsHeard = true := by kernel_rfl
theorem closed25 : Tryz.prog.mayEnter = true := by kernel_rfl
theorem closed26 : (Rows.nodeNobodyRow.lifted == Tryz.prog.liftsFinal) = true := by kernel_rfl
theorem closed27 : (Tryz.prog.make == some Rows.nodeNobodyRow.make) = true := by kernel_rfl
theorem closed28 : (Rows.nodeNobodyRow.kinds == (if Rows.nodeNobodyRow.domain.isEmpty then [] else Tryz.f3.params.toList.map fun t => match Tryz.prog.underlying t with | some (.int k) => some k | _ => none)) = true := by kernel_rfl
theorem closed29 : (Rows.nodeNobodyRow.pinned == Rows.nodeNobodyRow.pinnedBy) = true := by kernel_rfl
theorem closed30 : (Rows.nodeNobodyRow.veiled == (Tryz.f3.params.toList ++ Rows.nodeNobodySpec.plain.varTypes Tryz.prog ++ Tryz.f3.resultTypes.toList).any (Tryz.prog.veiledRec ·)) = true := by kernel_rfl
theorem closed31 : Rows.nodeNobodyRow.veiledFits Tryz.prog Tryz.f3.params.toList (Tryz.f3.params.toList ++ Rows.nodeNobodySpec.plain.varTypes Tryz.prog ++ Tryz.f3.resultTypes.toList) = true := by kernel_rfl
theorem closed_and {a b : Bool} (ha : a = true) (hb : b = true) : (a && b) = true := by rw [ha, hb]; rfl
theorem closed_all : joinedFacts Tryz.prog 3 Tryz.f3 Rows.nodeNobodySpec Rows.nodeNobodyRow = true := (closed_and (closed_and (closed_and (closed_and (closed_and (closed_and (closed_and (closed_and (closed_and (closed_and (closed_and (closed_and (closed_and (closed_and (closed_and (closed_and (closed_and (closed_and (closed_and (closed_and (closed_and (closed_and (closed_and (closed_and (closed_and (closed_and (closed_and (closed_and (closed_and (closed_and (closed_and closed0 closed1) closed2) closed3) closed4) closed5) closed6) closed7) closed8) closed9) closed10) closed11) closed12) closed13) closed14) closed15) closed16) closed17) closed18) closed19) closed20) closed21) closed22) closed23) closed24) closed25) closed26) closed27) closed28) closed29) closed30) closed31)
theorem closed_name : Tryz.prog.funcNamed Rows.nodeNobodyRow.func = some 3 := by kernel_rfl
end Go.Proofs.YtmnepjoaggdhpabGreat
