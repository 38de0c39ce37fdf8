/- The closed facts of the row of AssemblyClosed, one by one. -/
import Derived.Test.YtocnbjjmmgolfaaGreatA09
import Derived.Test.YtocnbjjmmgolfaaGreatRows
import Derived.ProofKit
set_option linter.unusedSimpArgs false
set_option linter.unusedVariables false
set_option linter.unusedSectionVars false
namespace Go.Proofs.YtocnbjjmmgolfaaGreat
open Go
theorem qb{a b:Bool}(h:a=true)(c:b=true):(a&&b)=true:=by rw[h,c];rfl
theorem checks_k0:(Rows.assemblyClosedRow.wf (OpenSpec.ofChange Rows.assemblyClosedSpec))=true:=by kernel_rfl
theorem checks_k1:(laidOutB Tryz.prog)=true:=by kernel_rfl
theorem checks_k2:(mapsRowed Tryz.prog)=true:=by kernel_rfl
theorem checks_k3:(Tryz.f5.params.all (Tryz.prog.readableRec ·))=true:=by kernel_rfl
theorem checks_k4:(namedTie Tryz.prog Rows.assemblyClosedRow.named Rows.assemblyClosedSpec.vars)=true:=by kernel_rfl
theorem checks_k5:((Rows.assemblyClosedRow.stops==[]))=true:=by kernel_rfl
theorem checks_k6:((Tryz.prog.stops==[]))=true:=by kernel_rfl
theorem checks_k7:((Rows.assemblyClosedRow.knobs==[]))=true:=by kernel_rfl
theorem checks_k8:((Tryz.prog.stopKnobs==[]))=true:=by kernel_rfl
theorem checks_k9:((Rows.assemblyClosedRow.inPlace==Tryz.prog.inPlace 5))=true:=by kernel_rfl
theorem zfG:((Rows.assemblyClosedRow.unfollowed==Tryz.prog.unfollowed 5))=true:=by kernel_rfl
theorem zfF:((Rows.assemblyClosedRow.recurses==Tryz.prog.recurses 5))=true:=by kernel_rfl
theorem zfE:((Rows.assemblyClosedRow.named==Tryz.prog.varsNamed 5))=true:=by kernel_rfl
theorem zfD:((Rows.assemblyClosedRow.maps==(Tryz.f5.params.toList++Rows.assemblyClosedSpec.plain.varTypes Tryz.prog).any (Tryz.prog.mapsRec ·)))=true:=by kernel_rfl
theorem zfC:((Rows.assemblyClosedRow.ifaces==(Tryz.f5.params.toList++Rows.assemblyClosedSpec.plain.varTypes Tryz.prog).any (Tryz.prog.ifacesRec ·)))=true:=by kernel_rfl
theorem zfB:((Rows.assemblyClosedRow.mapsOut==Tryz.prog.mapsAmong Tryz.f5.resultTypes.toList))=true:=by kernel_rfl
theorem zfA:((Rows.assemblyClosedRow.loops==(Tryz.f5.params.toList++Rows.assemblyClosedSpec.plain.varTypes Tryz.prog).any (Tryz.prog.loopsFrom ·)))=true:=by kernel_rfl
theorem zfz:((Rows.assemblyClosedRow.wideKeys==(Tryz.f5.params.toList++Rows.assemblyClosedSpec.plain.varTypes Tryz.prog++Tryz.f5.resultTypes.toList).any (Tryz.prog.wideKeysFrom ·)))=true:=by kernel_rfl
theorem zfy:(Rows.assemblyClosedSpec.vars.all (Tryz.prog.varReadable ·))=true:=by kernel_rfl
theorem zfx:(Tryz.f5.resultTypes.all (fun t=>Tryz.prog.readableRec t&&decide (t<Tryz.prog.types.size)))=true:=by kernel_rfl
theorem zfw:((Rows.assemblyClosedRow.ifacesOut==Tryz.f5.resultTypes.toList.any (Tryz.prog.ifacesRec ·)))=true:=by kernel_rfl
theorem zfv:((Rows.assemblyClosedRow.loopsOut==Tryz.f5.resultTypes.toList.any (Tryz.prog.loopsFrom ·)))=true:=by kernel_rfl
theorem zfu:((Rows.assemblyClosedRow.plainKeys==Tryz.prog.plainKeys))=true:=by kernel_rfl
theorem zft:(Rows.assemblyClosedRow.shortTexts.isNone)=true:=by kernel_rfl
theorem zfs:(Tryz.prog.stopsHeard)=true:=by kernel_rfl
theorem zfr:(Tryz.prog.mayEnter)=true:=by kernel_rfl
theorem zfq:((Rows.assemblyClosedRow.lifted==Tryz.prog.liftsFinal))=true:=by kernel_rfl
theorem zfp:((Tryz.prog.make==some Rows.assemblyClosedRow.make))=true:=by kernel_rfl
theorem zfo:((Rows.assemblyClosedRow.kinds==(if Rows.assemblyClosedRow.domain.isEmpty then []else Tryz.f5.params.toList.map fun t=>match Tryz.prog.underlying t with|some (.int k)=>some k|_=>none)))=true:=by kernel_rfl
theorem zfn:((Rows.assemblyClosedRow.pinned==Rows.assemblyClosedRow.pinnedBy))=true:=by kernel_rfl
theorem zfm:((Rows.assemblyClosedRow.veiled==(Tryz.f5.params.toList++Rows.assemblyClosedSpec.plain.varTypes Tryz.prog++Tryz.f5.resultTypes.toList).any (Tryz.prog.veiledRec ·)))=true:=by kernel_rfl
theorem zfl:(Rows.assemblyClosedRow.veiledFits Tryz.prog Tryz.f5.params.toList (Tryz.f5.params.toList++Rows.assemblyClosedSpec.plain.varTypes Tryz.prog++Tryz.f5.resultTypes.toList))=true:=by kernel_rfl
end Go.Proofs.YtocnbjjmmgolfaaGreat
