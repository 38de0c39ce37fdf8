/- The closed facts of the row of UndoLeast, one by one. -/
import Derived.Test.YtdejleegamcioaaGreatL30
import Derived.Test.YtdejleegamcioaaGreatRows
import Derived.Conc.Holds
namespace Go.Proofs.YtdejleegamcioaaGreat
open Go
theorem and_t {a b : Bool} (h : a = true) (h' : b = true) : (a && b) = true := by rw [h, h']; rfl
theorem least_k0 : (Rows.undoLeastRow.wf (OpenSpec.ofChange Rows.undoLeastSpec)) = true := by kernel_rfl
theorem least_k1 : (laidOutB Tryz.prog) = true := by kernel_rfl
theorem least_k2 : (mapsRowed Tryz.prog) = true := by kernel_rfl
theorem least_k3 : (Tryz.f3.params.all (Tryz.prog.readableRec ·)) = true := by kernel_rfl
theorem least_k4 : (namedTie Tryz.prog Rows.undoLeastRow.named Rows.undoLeastSpec.vars) = true := by kernel_rfl
theorem least_k5 : ((Rows.undoLeastRow.stops == [])) = true := by kernel_rfl
theorem least_k6 : ((Tryz.prog.stops == [])) = true := by kernel_rfl
theorem least_k7 : ((Rows.undoLeastRow.knobs == [])) = true := by kernel_rfl
theorem least_k8 : ((Tryz.prog.stopKnobs == [])) = true := by kernel_rfl
theorem least_k9 : ((Rows.undoLeastRow.inPlace == Tryz.prog.inPlace 3)) = true := by kernel_rfl
theorem least_k10 : ((Rows.undoLeastRow.unfollowed == Tryz.prog.unfollowed 3)) = true := by kernel_rfl
theorem least_k11 : ((Rows.undoLeastRow.recurses == Tryz.prog.recurses 3)) = true := by kernel_rfl
theorem least_k12 : ((Rows.undoLeastRow.named == Tryz.prog.varsNamed 3)) = true := by kernel_rfl
theorem least_k13 : ((Rows.undoLeastRow.maps == (Tryz.f3.params.toList ++ Rows.undoLeastSpec.plain.varTypes Tryz.prog).any (Tryz.prog.mapsRec ·))) = true := by kernel_rfl
theorem least_k14 : ((Rows.undoLeastRow.ifaces == (Tryz.f3.params.toList ++ Rows.undoLeastSpec.plain.varTypes Tryz.prog).any (Tryz.prog.ifacesRec ·))) = true := by kernel_rfl
theorem least_k15 : ((Rows.undoLeastRow.mapsOut == Tryz.prog.mapsAmong Tryz.f3.resultTypes.toList)) = true := by kernel_rfl
theorem least_k16 : ((Rows.undoLeastRow.loops == (Tryz.f3.params.toList ++ Rows.undoLeastSpec.plain.varTypes Tryz.prog).any (Tryz.prog.loopsFrom ·))) = true := by kernel_rfl
theorem least_k17 : ((Rows.undoLeastRow.wideKeys == (Tryz.f3.params.toList ++ Rows.undoLeastSpec.plain.varTypes Tryz.prog ++ Tryz.f3.resultTypes.toList).any (Tryz.prog.wideKeysFrom ·))) = true := by kernel_rfl
theorem least_k18 : (Rows.undoLeastSpec.vars.all (Tryz.prog.varReadable ·)) = true := by kernel_rfl
theorem least_k19 : (Tryz.f3.resultTypes.all (fun t => Tryz.prog.readableRec t && decide (t < Tryz.prog.types.size))) = true := by kernel_rfl
theorem least_k20 : ((Rows.undoLeastRow.ifacesOut == Tryz.f3.resultTypes.toList.any (Tryz.prog.ifacesRec ·))) = true := by kernel_rfl
theorem least_k21 : ((Rows.undoLeastRow.loopsOut == Tryz.f3.resultTypes.toList.any (Tryz.prog.loopsFrom ·))) = true := by kernel_rfl
theorem least_k22 : ((Rows.undoLeastRow.plainKeys == Tryz.prog.plainKeys)) = true := by kernel_rfl
theorem least_k23 : (Rows.undoLeastRow.shortTexts.isNone) = true := by kernel_rfl
theorem least_k24 : (Tryz.prog.stopsHeard) = true := by kernel_rfl
theorem least_k25 : (Tryz.prog.mayEnter) = true := by kernel_rfl
theorem least_k26 : ((Rows.undoLeastRow.lifted == Tryz.prog.liftsFinal)) = true := by kernel_rfl
theorem least_k27 : ((Tryz.prog.make == some Rows.undoLeastRow.make)) = true := by kernel_rfl
theorem least_k28 : ((Rows.undoLeastRow.kinds == (if Rows.undoLeastRow.domain.isEmpty then [] else Tryz.f3.params.toList.map fun t => match Tryz.prog.underlying t with | some (.int k) => some k | _ => none))) = true := by kernel_rfl
theorem least_k29 : ((Rows.undoLeastRow.pinned == Rows.undoLeastRow.pinnedBy)) = true := by kernel_rfl
theorem least_k30 : ((Rows.undoLeastRow.veiled == (Tryz.f3.params.toList ++ Rows.undoLeastSpec.plain.varTypes Tryz.prog ++ Tryz.f3.resultTypes.toList).any (Tryz.prog.veiledRec ·))) = true := by kernel_rfl
theorem least_k31 : (Rows.undoLeastRow.veiledFits Tryz.prog Tryz.f3.params.toList (Tryz.f3.params.toList ++ Rows.undoLeastSpec.plain.varTypes Tryz.prog ++ Tryz.f3.resultTypes.toList)) = true := by kernel_rfl
end Go.Proofs.YtdejleegamcioaaGreat
