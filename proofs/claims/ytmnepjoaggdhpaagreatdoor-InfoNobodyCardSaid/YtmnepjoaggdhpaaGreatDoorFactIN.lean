/-
  THE CLOSED FACTS OF A ROW, one by one. Printed by a program (mkfacts.py).
-/
import Derived.Test.YtmnepjoaggdhpaaGreatDoorRows
import Derived.ProofKit
namespace Go.Proofs.YtmnepjoaggdhpaaGreatDoor
set_option maxRecDepth 100000
theorem closed0 : Rows.infoNobodyRow.wf (OpenSpec.ofChange Rows.infoNobodySpec) = true := by kernel_rfl
theorem closed1 : laidOutB Tryz.prog = true := by kernel_rfl
theorem closed2 : mapsRowed Tryz.prog = true := by kernel_rfl
theorem closed3 : Tryz.f3.params.all (Tryz.prog.readableRec ·) = true := by kernel_rfl
theorem closed4 : namedTie Tryz.prog Rows.infoNobodyRow.named Rows.infoNobodySpec.vars = true := by kernel_rfl
theorem closed5 : (Rows.infoNobodyRow.stops == []) = true := by kernel_rfl
theorem closed6 : (Tryz.prog.stops == []) = true := by kernel_rfl
theorem closed7 : (Rows.infoNobodyRow.knobs == []) = true := by kernel_rfl
theorem closed8 : (Tryz.prog.stopKnobs == []) = true := by kernel_rfl
theorem closed9 : (Rows.infoNobodyRow.inPlace == Tryz.prog.inPlace 3) = true := by kernel_rfl
theorem closed10 : (Rows.infoNobodyRow.unfollowed == Tryz.prog.unfollowed 3) = true := by kernel_rfl
theorem closed11 : (Rows.infoNobodyRow.recurses == Tryz.prog.recurses 3) = true := by kernel_rfl
theorem closed12 : (Rows.infoNobodyRow.named == Tryz.prog.varsNamed 3) = true := by kernel_rfl
theorem closed13 : (Rows.infoNobodyRow.maps == (Tryz.f3.params.toList ++ Rows.infoNobodySpec.plain.varTypes Tryz.prog).any (Tryz.prog.mapsRec ·)) = true := by kernel_rfl
theorem closed14 : (Rows.infoNobodyRow.ifaces == (Tryz.f3.params.toList ++ Rows.infoNobodySpec.plain.varTypes Tryz.prog).any (Tryz.prog.ifacesRec ·)) = true := by kernel_rfl
theorem closed15 : (Rows.infoNobodyRow.mapsOut == Tryz.prog.mapsAmong Tryz.f3.resultTypes.toList) = true := by kernel_rfl
theorem closed16 : (Rows.infoNobodyRow.loops == (Tryz.f3.params.toList ++ Rows.infoNobodySpec.plain.varTypes Tryz.prog).any (Tryz.prog.loopsFrom ·)) = true := by kernel_rfl
theorem closed17 : (Rows.infoNobodyRow.wideKeys == (Tryz.f3.params.toList ++ Rows.infoNobodySpec.plain.varTypes Tryz.prog ++ Tryz.f3.resultTypes.toList).any (Tryz.prog.wideKeysFrom ·)) = true := by kernel_rfl
theorem closed18 : Rows.infoNobodySpec.vars.all (Tryz.prog.varReadable ·) = true := by kernel_rfl
theorem closed19 : Tryz.f3.resultTypes.all (fun t => Tryz.prog.readableRec t && decide (t < Tryz.prog.types.size)) = true := by kernel_rfl
theorem closed20 : (Rows.infoNobodyRow.ifacesOut == Tryz.f3.resultTypes.toList.any (Tryz.prog.ifacesRec ·)) = true := by kernel_rfl
theorem closed21 : (Rows.infoNobodyRow.loopsOut == Tryz.f3.resultTypes.toList.any (Tryz.prog.loopsFrom ·)) = true := by kernel_rfl
theorem closed22 : (Rows.infoNobodyRow.plainKeys == Tryz.prog.plainKeys) = true := by kernel_rfl
theorem closed23 : Rows.infoNobodyRow.shortTexts.isNone = true := by kernel_rfl
theorem closed24 : Tryz.prog.stopsHeard = true := by kernel_rfl
theorem closed25 : Tryz.prog.mayEnter = true := by kernel_rfl
theorem closed26 : (Rows.infoNobodyRow.lifted == Tryz.prog.liftsFinal) = true := by kernel_rfl
theorem closed27 : (Tryz.prog.make == some Rows.infoNobodyRow.make) = true := by kernel_rfl
theorem closed28 : (Rows.infoNobodyRow.kinds == (if Rows.infoNobodyRow.domain.isEmpty then [] else Tryz.f3.params.toList.map fun t => match Tryz.prog.underlying t with | some (.int k) => some k | _ => none)) = true := by kernel_rfl
theorem closed29 : (Rows.infoNobodyRow.pinned == Rows.infoNobodyRow.pinnedBy) = true := by kernel_rfl
theorem closed30 : (Rows.infoNobodyRow.veiled == (Tryz.f3.params.toList ++ Rows.infoNobodySpec.plain.varTypes Tryz.prog ++ Tryz.f3.resultTypes.toList).any (Tryz.prog.veiledRec ·)) = true := by kernel_rfl
theorem closed31 : Rows.infoNobodyRow.veiledFits Tryz.prog Tryz.f3.params.toList (Tryz.f3.params.toList ++ Rows.infoNobodySpec.plain.varTypes Tryz.prog ++ Tryz.f3.resultTypes.toList) = true := by kernel_rfl
theorem closed_and {a b : Bool} (ha : a = true) (hb : b = true) : (a && b) = true := by rw [ha, hb]; rfl
theorem closed_all : joinedFacts Tryz.prog 3 Tryz.f3 Rows.infoNobodySpec Rows.infoNobodyRow = true := (closed_and (closed_and (closed_and (closed_and (closed_and (closed_and (closed_and (closed_and (closed_and (closed_and (closed_and (closed_and (closed_and (closed_and (closed_and (closed_and (closed_and (closed_and (closed_and (closed_and (closed_and (closed_and (closed_and (closed_and (closed_and (closed_and (closed_and (closed_and (closed_and (closed_and (closed_and closed0 closed1) closed2) closed3) closed4) closed5) closed6) closed7) closed8) closed9) closed10) closed11) closed12) closed13) closed14) closed15) closed16) closed17) closed18) closed19) closed20) closed21) closed22) closed23) closed24) closed25) closed26) closed27) closed28) closed29) closed30) closed31)
theorem closed_name : Tryz.prog.funcNamed Rows.infoNobodyRow.func = some 3 := by kernel_rfl
end Go.Proofs.YtmnepjoaggdhpaaGreatDoor
