/- The closed facts of the row of UndoEnough, one by one. -/
import Derived.Test.YtdejleegamcioaaGreatM31
import Derived.Test.YtdejleegamcioaaGreatRows
import Derived.Conc.Holds
namespace Go.Proofs.YtdejleegamcioaaGreat
open Go
theorem and_t {a b : Bool} (h : a = true) (h' : b = true) : (a && b) = true := by rw [h, h']; rfl
theorem enough_k0 : (Rows.undoEnoughRow.wf (OpenSpec.ofChange Rows.undoEnoughSpec)) = true := by kernel_rfl
theorem enough_k1 : (laidOutB Tryz.prog) = true := by kernel_rfl
theorem enough_k2 : (mapsRowed Tryz.prog) = true := by kernel_rfl
theorem enough_k3 : (Tryz.f6.params.all (Tryz.prog.readableRec ·)) = true := by kernel_rfl
theorem enough_k4 : (namedTie Tryz.prog Rows.undoEnoughRow.named Rows.undoEnoughSpec.vars) = true := by kernel_rfl
theorem enough_k5 : ((Rows.undoEnoughRow.stops == [])) = true := by kernel_rfl
theorem enough_k6 : ((Tryz.prog.stops == [])) = true := by kernel_rfl
theorem enough_k7 : ((Rows.undoEnoughRow.knobs == [])) = true := by kernel_rfl
theorem enough_k8 : ((Tryz.prog.stopKnobs == [])) = true := by kernel_rfl
theorem enough_k9 : ((Rows.undoEnoughRow.inPlace == Tryz.prog.inPlace 6)) = true := by kernel_rfl
theorem enough_k10 : ((Rows.undoEnoughRow.unfollowed == Tryz.prog.unfollowed 6)) = true := by kernel_rfl
theorem enough_k11 : ((Rows.undoEnoughRow.recurses == Tryz.prog.recurses 6)) = true := by kernel_rfl
theorem enough_k12 : ((Rows.undoEnoughRow.named == Tryz.prog.varsNamed 6)) = true := by kernel_rfl
theorem enough_k13 : ((Rows.undoEnoughRow.maps == (Tryz.f6.params.toList ++ Rows.undoEnoughSpec.plain.varTypes Tryz.prog).any (Tryz.prog.mapsRec ·))) = true := by kernel_rfl
theorem enough_k14 : ((Rows.undoEnoughRow.ifaces == (Tryz.f6.params.toList ++ Rows.undoEnoughSpec.plain.varTypes Tryz.prog).any (Tryz.prog.ifacesRec ·))) = true := by kernel_rfl
theorem enough_k15 : ((Rows.undoEnoughRow.mapsOut == Tryz.prog.mapsAmong Tryz.f6.resultTypes.toList)) = true := by kernel_rfl
theorem enough_k16 : ((Rows.undoEnoughRow.loops == (Tryz.f6.params.toList ++ Rows.undoEnoughSpec.plain.varTypes Tryz.prog).any (Tryz.prog.loopsFrom ·))) = true := by kernel_rfl
theorem enough_k17 : ((Rows.undoEnoughRow.wideKeys == (Tryz.f6.params.toList ++ Rows.undoEnoughSpec.plain.varTypes Tryz.prog ++ Tryz.f6.resultTypes.toList).any (Tryz.prog.wideKeysFrom ·))) = true := by kernel_rfl
theorem enough_k18 : (Rows.undoEnoughSpec.vars.all (Tryz.prog.varReadable ·)) = true := by kernel_rfl
theorem enough_k19 : (Tryz.f6.resultTypes.all (fun t => Tryz.prog.readableRec t && decide (t < Tryz.prog.types.size))) = true := by kernel_rfl
theorem enough_k20 : ((Rows.undoEnoughRow.ifacesOut == Tryz.f6.resultTypes.toList.any (Tryz.prog.ifacesRec ·))) = true := by kernel_rfl
theorem enough_k21 : ((Rows.undoEnoughRow.loopsOut == Tryz.f6.resultTypes.toList.any (Tryz.prog.loopsFrom ·))) = true := by kernel_rfl
theorem enough_k22 : ((Rows.undoEnoughRow.plainKeys == Tryz.prog.plainKeys)) = true := by kernel_rfl
theorem enough_k23 : (Rows.undoEnoughRow.shortTexts.isNone) = true := by kernel_rfl
theorem enough_k24 : (Tryz.prog.stopsHeard) = true := by kernel_rfl
theorem enough_k25 : (Tryz.prog.mayEnter) = true := by kernel_rfl
theorem enough_k26 : ((Rows.undoEnoughRow.lifted == Tryz.prog.liftsFinal)) = true := by kernel_rfl
theorem enough_k27 : ((Tryz.prog.make == some Rows.undoEnoughRow.make)) = true := by kernel_rfl
theorem enough_k28 : ((Rows.undoEnoughRow.kinds == (if Rows.undoEnoughRow.domain.isEmpty then [] else Tryz.f6.params.toList.map fun t => match Tryz.prog.underlying t with | some (.int k) => some k | _ => none))) = true := by kernel_rfl
theorem enough_k29 : ((Rows.undoEnoughRow.pinned == Rows.undoEnoughRow.pinnedBy)) = true := by kernel_rfl
theorem enough_k30 : ((Rows.undoEnoughRow.veiled == (Tryz.f6.params.toList ++ Rows.undoEnoughSpec.plain.varTypes Tryz.prog ++ Tryz.f6.resultTypes.toList).any (Tryz.prog.veiledRec ·))) = true := by kernel_rfl
theorem enough_k31 : (Rows.undoEnoughRow.veiledFits Tryz.prog Tryz.f6.params.toList (Tryz.f6.params.toList ++ Rows.undoEnoughSpec.plain.varTypes Tryz.prog ++ Tryz.f6.resultTypes.toList)) = true := by kernel_rfl
end Go.Proofs.YtdejleegamcioaaGreat
