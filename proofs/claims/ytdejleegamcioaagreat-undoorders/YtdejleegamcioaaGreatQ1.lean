/- The closed facts of the row of UndoOrders, one by one. -/
import Derived.Test.YtdejleegamcioaaGreatP28
import Derived.Test.YtdejleegamcioaaGreatRows
import Derived.Conc.Holds
namespace Go.Proofs.YtdejleegamcioaaGreat
open Go
theorem y8 {a b : Bool} (h : a = true) (h' : b = true) : (a && b) = true := by rw [h, h']; rfl
theorem orders_k0 : (Rows.undoOrdersRow.wf (OpenSpec.ofChange Rows.undoOrdersSpec)) = true := by kernel_rfl
theorem orders_k1 : (laidOutB Tryz.prog) = true := by kernel_rfl
theorem orders_k2 : (mapsRowed Tryz.prog) = true := by kernel_rfl
theorem orders_k3 : (Tryz.f8.params.all (Tryz.prog.readableRec ·)) = true := by kernel_rfl
theorem orders_k4 : (namedTie Tryz.prog Rows.undoOrdersRow.named Rows.undoOrdersSpec.vars) = true := by kernel_rfl
theorem orders_k5 : ((Rows.undoOrdersRow.stops == [])) = true := by kernel_rfl
theorem orders_k6 : ((Tryz.prog.stops == [])) = true := by kernel_rfl
theorem orders_k7 : ((Rows.undoOrdersRow.knobs == [])) = true := by kernel_rfl
theorem orders_k8 : ((Tryz.prog.stopKnobs == [])) = true := by kernel_rfl
theorem orders_k9 : ((Rows.undoOrdersRow.inPlace == Tryz.prog.inPlace 8)) = true := by kernel_rfl
theorem orders_k10 : ((Rows.undoOrdersRow.unfollowed == Tryz.prog.unfollowed 8)) = true := by kernel_rfl
theorem orders_k11 : ((Rows.undoOrdersRow.recurses == Tryz.prog.recurses 8)) = true := by kernel_rfl
theorem orders_k12 : ((Rows.undoOrdersRow.named == Tryz.prog.varsNamed 8)) = true := by kernel_rfl
theorem orders_k13 : ((Rows.undoOrdersRow.maps == (Tryz.f8.params.toList ++ Rows.undoOrdersSpec.plain.varTypes Tryz.prog).any (Tryz.prog.mapsRec ·))) = true := by kernel_rfl
theorem orders_k14 : ((Rows.undoOrdersRow.ifaces == (Tryz.f8.params.toList ++ Rows.undoOrdersSpec.plain.varTypes Tryz.prog).any (Tryz.prog.ifacesRec ·))) = true := by kernel_rfl
theorem orders_k15 : ((Rows.undoOrdersRow.mapsOut == Tryz.prog.mapsAmong Tryz.f8.resultTypes.toList)) = true := by kernel_rfl
theorem orders_k16 : ((Rows.undoOrdersRow.loops == (Tryz.f8.params.toList ++ Rows.undoOrdersSpec.plain.varTypes Tryz.prog).any (Tryz.prog.loopsFrom ·))) = true := by kernel_rfl
theorem orders_k17 : ((Rows.undoOrdersRow.wideKeys == (Tryz.f8.params.toList ++ Rows.undoOrdersSpec.plain.varTypes Tryz.prog ++ Tryz.f8.resultTypes.toList).any (Tryz.prog.wideKeysFrom ·))) = true := by kernel_rfl
theorem orders_k18 : (Rows.undoOrdersSpec.vars.all (Tryz.prog.varReadable ·)) = true := by kernel_rfl
theorem orders_k19 : (Tryz.f8.resultTypes.all (fun t => Tryz.prog.readableRec t && decide (t < Tryz.prog.types.size))) = true := by kernel_rfl
theorem orders_k20 : ((Rows.undoOrdersRow.ifacesOut == Tryz.f8.resultTypes.toList.any (Tryz.prog.ifacesRec ·))) = true := by kernel_rfl
theorem orders_k21 : ((Rows.undoOrdersRow.loopsOut == Tryz.f8.resultTypes.toList.any (Tryz.prog.loopsFrom ·))) = true := by kernel_rfl
theorem orders_k22 : ((Rows.undoOrdersRow.plainKeys == Tryz.prog.plainKeys)) = true := by kernel_rfl
theorem orders_k23 : (Rows.undoOrdersRow.shortTexts.isNone) = true := by kernel_rfl
theorem orders_k24 : (Tryz.prog.stopsHeard) = true := by kernel_rfl
theorem orders_k25 : (Tryz.prog.mayEnter) = true := by kernel_rfl
theorem orders_k26 : ((Rows.undoOrdersRow.lifted == Tryz.prog.liftsFinal)) = true := by kernel_rfl
theorem orders_k27 : ((Tryz.prog.make == some Rows.undoOrdersRow.make)) = true := by kernel_rfl
theorem orders_k28 : ((Rows.undoOrdersRow.kinds == (if Rows.undoOrdersRow.domain.isEmpty then [] else Tryz.f8.params.toList.map fun t => match Tryz.prog.underlying t with | some (.int k) => some k | _ => none))) = true := by kernel_rfl
theorem orders_k29 : ((Rows.undoOrdersRow.pinned == Rows.undoOrdersRow.pinnedBy)) = true := by kernel_rfl
theorem orders_k30 : ((Rows.undoOrdersRow.veiled == (Tryz.f8.params.toList ++ Rows.undoOrdersSpec.plain.varTypes Tryz.prog ++ Tryz.f8.resultTypes.toList).any (Tryz.prog.veiledRec ·))) = true := by kernel_rfl
theorem orders_k31 : (Rows.undoOrdersRow.veiledFits Tryz.prog Tryz.f8.params.toList (Tryz.f8.params.toList ++ Rows.undoOrdersSpec.plain.varTypes Tryz.prog ++ Tryz.f8.resultTypes.toList)) = true := by kernel_rfl
end Go.Proofs.YtdejleegamcioaaGreat
