/- The closed facts of the row of UndoFewest, one by one. -/
import Derived.Test.YtdejleegamcioaaGreatF35
import Derived.Test.YtdejleegamcioaaGreatRows
import Derived.Conc.Holds
namespace Go.Proofs.YtdejleegamcioaaGreat
open Go
theorem xr {a b : Bool} (h : a = true) (h' : b = true) : (a && b) = true := by rw [h, h']; rfl
theorem fewest_k0 : (Rows.undoFewestRow.wf (OpenSpec.ofChange Rows.undoFewestSpec)) = true := by kernel_rfl
theorem fewest_k1 : (laidOutB Tryz.prog) = true := by kernel_rfl
theorem fewest_k2 : (mapsRowed Tryz.prog) = true := by kernel_rfl
theorem fewest_k3 : (Tryz.f5.params.all (Tryz.prog.readableRec ·)) = true := by kernel_rfl
theorem fewest_k4 : (namedTie Tryz.prog Rows.undoFewestRow.named Rows.undoFewestSpec.vars) = true := by kernel_rfl
theorem fewest_k5 : ((Rows.undoFewestRow.stops == [])) = true := by kernel_rfl
theorem fewest_k6 : ((Tryz.prog.stops == [])) = true := by kernel_rfl
theorem fewest_k7 : ((Rows.undoFewestRow.knobs == [])) = true := by kernel_rfl
theorem fewest_k8 : ((Tryz.prog.stopKnobs == [])) = true := by kernel_rfl
theorem fewest_k9 : ((Rows.undoFewestRow.inPlace == Tryz.prog.inPlace 5)) = true := by kernel_rfl
theorem fewest_k10 : ((Rows.undoFewestRow.unfollowed == Tryz.prog.unfollowed 5)) = true := by kernel_rfl
theorem fewest_k11 : ((Rows.undoFewestRow.recurses == Tryz.prog.recurses 5)) = true := by kernel_rfl
theorem fewest_k12 : ((Rows.undoFewestRow.named == Tryz.prog.varsNamed 5)) = true := by kernel_rfl
theorem fewest_k13 : ((Rows.undoFewestRow.maps == (Tryz.f5.params.toList ++ Rows.undoFewestSpec.plain.varTypes Tryz.prog).any (Tryz.prog.mapsRec ·))) = true := by kernel_rfl
theorem fewest_k14 : ((Rows.undoFewestRow.ifaces == (Tryz.f5.params.toList ++ Rows.undoFewestSpec.plain.varTypes Tryz.prog).any (Tryz.prog.ifacesRec ·))) = true := by kernel_rfl
theorem fewest_k15 : ((Rows.undoFewestRow.mapsOut == Tryz.prog.mapsAmong Tryz.f5.resultTypes.toList)) = true := by kernel_rfl
theorem fewest_k16 : ((Rows.undoFewestRow.loops == (Tryz.f5.params.toList ++ Rows.undoFewestSpec.plain.varTypes Tryz.prog).any (Tryz.prog.loopsFrom ·))) = true := by kernel_rfl
theorem fewest_k17 : ((Rows.undoFewestRow.wideKeys == (Tryz.f5.params.toList ++ Rows.undoFewestSpec.plain.varTypes Tryz.prog ++ Tryz.f5.resultTypes.toList).any (Tryz.prog.wideKeysFrom ·))) = true := by kernel_rfl
theorem fewest_k18 : (Rows.undoFewestSpec.vars.all (Tryz.prog.varReadable ·)) = true := by kernel_rfl
theorem fewest_k19 : (Tryz.f5.resultTypes.all (fun t => Tryz.prog.readableRec t && decide (t < Tryz.prog.types.size))) = true := by kernel_rfl
theorem fewest_k20 : ((Rows.undoFewestRow.ifacesOut == Tryz.f5.resultTypes.toList.any (Tryz.prog.ifacesRec ·))) = true := by kernel_rfl
theorem fewest_k21 : ((Rows.undoFewestRow.loopsOut == Tryz.f5.resultTypes.toList.any (Tryz.prog.loopsFrom ·))) = true := by kernel_rfl
theorem fewest_k22 : ((Rows.undoFewestRow.plainKeys == Tryz.prog.plainKeys)) = true := by kernel_rfl
theorem fewest_k23 : (Rows.undoFewestRow.shortTexts.isNone) = true := by kernel_rfl
theorem fewest_k24 : (Tryz.prog.stopsHeard) = true := by kernel_rfl
theorem fewest_k25 : (Tryz.prog.mayEnter) = true := by kernel_rfl
theorem fewest_k26 : ((Rows.undoFewestRow.lifted == Tryz.prog.liftsFinal)) = true := by kernel_rfl
theorem fewest_k27 : ((Tryz.prog.make == some Rows.undoFewestRow.make)) = true := by kernel_rfl
theorem fewest_k28 : ((Rows.undoFewestRow.kinds == (if Rows.undoFewestRow.domain.isEmpty then [] else Tryz.f5.params.toList.map fun t => match Tryz.prog.underlying t with | some (.int k) => some k | _ => none))) = true := by kernel_rfl
theorem fewest_k29 : ((Rows.undoFewestRow.pinned == Rows.undoFewestRow.pinnedBy)) = true := by kernel_rfl
theorem fewest_k30 : ((Rows.undoFewestRow.veiled == (Tryz.f5.params.toList ++ Rows.undoFewestSpec.plain.varTypes Tryz.prog ++ Tryz.f5.resultTypes.toList).any (Tryz.prog.veiledRec ·))) = true := by kernel_rfl
theorem fewest_k31 : (Rows.undoFewestRow.veiledFits Tryz.prog Tryz.f5.params.toList (Tryz.f5.params.toList ++ Rows.undoFewestSpec.plain.varTypes Tryz.prog ++ Tryz.f5.resultTypes.toList)) = true := by kernel_rfl
end Go.Proofs.YtdejleegamcioaaGreat
