/- The closed facts of the row of UndoChecks, one by one. -/
import Derived.Test.YtdejleegamcioaaGreatC37
import Derived.Test.YtdejleegamcioaaGreatRows
import Derived.Conc.Holds
namespace Go.Proofs.YtdejleegamcioaaGreat
open Go
theorem yC {a b : Bool} (h : a = true) (h' : b = true) : (a && b) = true := by rw [h, h']; rfl
theorem checks_k0 : (Rows.undoChecksRow.wf (OpenSpec.ofChange Rows.undoChecksSpec)) = true := by kernel_rfl
theorem checks_k1 : (laidOutB Tryz.prog) = true := by kernel_rfl
theorem checks_k2 : (mapsRowed Tryz.prog) = true := by kernel_rfl
theorem checks_k3 : (Tryz.f4.params.all (Tryz.prog.readableRec ·)) = true := by kernel_rfl
theorem checks_k4 : (namedTie Tryz.prog Rows.undoChecksRow.named Rows.undoChecksSpec.vars) = true := by kernel_rfl
theorem checks_k5 : ((Rows.undoChecksRow.stops == [])) = true := by kernel_rfl
theorem checks_k6 : ((Tryz.prog.stops == [])) = true := by kernel_rfl
theorem checks_k7 : ((Rows.undoChecksRow.knobs == [])) = true := by kernel_rfl
theorem checks_k8 : ((Tryz.prog.stopKnobs == [])) = true := by kernel_rfl
theorem checks_k9 : ((Rows.undoChecksRow.inPlace == Tryz.prog.inPlace 4)) = true := by kernel_rfl
theorem checks_k10 : ((Rows.undoChecksRow.unfollowed == Tryz.prog.unfollowed 4)) = true := by kernel_rfl
theorem checks_k11 : ((Rows.undoChecksRow.recurses == Tryz.prog.recurses 4)) = true := by kernel_rfl
theorem checks_k12 : ((Rows.undoChecksRow.named == Tryz.prog.varsNamed 4)) = true := by kernel_rfl
theorem checks_k13 : ((Rows.undoChecksRow.maps == (Tryz.f4.params.toList ++ Rows.undoChecksSpec.plain.varTypes Tryz.prog).any (Tryz.prog.mapsRec ·))) = true := by kernel_rfl
theorem checks_k14 : ((Rows.undoChecksRow.ifaces == (Tryz.f4.params.toList ++ Rows.undoChecksSpec.plain.varTypes Tryz.prog).any (Tryz.prog.ifacesRec ·))) = true := by kernel_rfl
theorem checks_k15 : ((Rows.undoChecksRow.mapsOut == Tryz.prog.mapsAmong Tryz.f4.resultTypes.toList)) = true := by kernel_rfl
theorem checks_k16 : ((Rows.undoChecksRow.loops == (Tryz.f4.params.toList ++ Rows.undoChecksSpec.plain.varTypes Tryz.prog).any (Tryz.prog.loopsFrom ·))) = true := by kernel_rfl
theorem checks_k17 : ((Rows.undoChecksRow.wideKeys == (Tryz.f4.params.toList ++ Rows.undoChecksSpec.plain.varTypes Tryz.prog ++ Tryz.f4.resultTypes.toList).any (Tryz.prog.wideKeysFrom ·))) = true := by kernel_rfl
theorem checks_k18 : (Rows.undoChecksSpec.vars.all (Tryz.prog.varReadable ·)) = true := by kernel_rfl
theorem checks_k19 : (Tryz.f4.resultTypes.all (fun t => Tryz.prog.readableRec t && decide (t < Tryz.prog.types.size))) = true := by kernel_rfl
theorem checks_k20 : ((Rows.undoChecksRow.ifacesOut == Tryz.f4.resultTypes.toList.any (Tryz.prog.ifacesRec ·))) = true := by kernel_rfl
theorem checks_k21 : ((Rows.undoChecksRow.loopsOut == Tryz.f4.resultTypes.toList.any (Tryz.prog.loopsFrom ·))) = true := by kernel_rfl
theorem checks_k22 : ((Rows.undoChecksRow.plainKeys == Tryz.prog.plainKeys)) = true := by kernel_rfl
theorem checks_k23 : (Rows.undoChecksRow.shortTexts.isNone) = true := by kernel_rfl
theorem checks_k24 : (Tryz.prog.stopsHeard) = true := by kernel_rfl
theorem checks_k25 : (Tryz.prog.mayEnter) = true := by kernel_rfl
theorem checks_k26 : ((Rows.undoChecksRow.lifted == Tryz.prog.liftsFinal)) = true := by kernel_rfl
theorem checks_k27 : ((Tryz.prog.make == some Rows.undoChecksRow.make)) = true := by kernel_rfl
theorem checks_k28 : ((Rows.undoChecksRow.kinds == (if Rows.undoChecksRow.domain.isEmpty then [] else Tryz.f4.params.toList.map fun t => match Tryz.prog.underlying t with | some (.int k) => some k | _ => none))) = true := by kernel_rfl
theorem checks_k29 : ((Rows.undoChecksRow.pinned == Rows.undoChecksRow.pinnedBy)) = true := by kernel_rfl
theorem checks_k30 : ((Rows.undoChecksRow.veiled == (Tryz.f4.params.toList ++ Rows.undoChecksSpec.plain.varTypes Tryz.prog ++ Tryz.f4.resultTypes.toList).any (Tryz.prog.veiledRec ·))) = true := by kernel_rfl
theorem checks_k31 : (Rows.undoChecksRow.veiledFits Tryz.prog Tryz.f4.params.toList (Tryz.f4.params.toList ++ Rows.undoChecksSpec.plain.varTypes Tryz.prog ++ Tryz.f4.resultTypes.toList)) = true := by kernel_rfl
end Go.Proofs.YtdejleegamcioaaGreat
