/- The closed facts of the row of AssemblyFewer, one by one. -/
import Derived.Test.YtocnbjjmmgolfaaGreatA09
import Derived.Test.YtocnbjjmmgolfaaGreatRows
import Derived.ProofKit
set_option linter.unusedSimpArgs false
set_option linter.unusedVariables false
set_option linter.unusedSectionVars false
namespace Go.Proofs.YtocnbjjmmgolfaaGreat
open Go
theorem xY{a b:Bool}(h:a=true)(c:b=true):(a&&b)=true:=by rw[h,c];rfl
theorem checks_k0:(Rows.assemblyFewerRow.wf (OpenSpec.ofChange Rows.assemblyFewerSpec))=true:=by kernel_rfl
theorem checks_k1:(laidOutB Tryz.prog)=true:=by kernel_rfl
theorem checks_k2:(mapsRowed Tryz.prog)=true:=by kernel_rfl
theorem checks_k3:(Tryz.f6.params.all (Tryz.prog.readableRec ·))=true:=by kernel_rfl
theorem checks_k4:(namedTie Tryz.prog Rows.assemblyFewerRow.named Rows.assemblyFewerSpec.vars)=true:=by kernel_rfl
theorem checks_k5:((Rows.assemblyFewerRow.stops==[]))=true:=by kernel_rfl
theorem checks_k6:((Tryz.prog.stops==[]))=true:=by kernel_rfl
theorem checks_k7:((Rows.assemblyFewerRow.knobs==[]))=true:=by kernel_rfl
theorem checks_k8:((Tryz.prog.stopKnobs==[]))=true:=by kernel_rfl
theorem checks_k9:((Rows.assemblyFewerRow.inPlace==Tryz.prog.inPlace 6))=true:=by kernel_rfl
theorem zfs:((Rows.assemblyFewerRow.unfollowed==Tryz.prog.unfollowed 6))=true:=by kernel_rfl
theorem zfr:((Rows.assemblyFewerRow.recurses==Tryz.prog.recurses 6))=true:=by kernel_rfl
theorem zfq:((Rows.assemblyFewerRow.named==Tryz.prog.varsNamed 6))=true:=by kernel_rfl
theorem zfp:((Rows.assemblyFewerRow.maps==(Tryz.f6.params.toList++Rows.assemblyFewerSpec.plain.varTypes Tryz.prog).any (Tryz.prog.mapsRec ·)))=true:=by kernel_rfl
theorem zfo:((Rows.assemblyFewerRow.ifaces==(Tryz.f6.params.toList++Rows.assemblyFewerSpec.plain.varTypes Tryz.prog).any (Tryz.prog.ifacesRec ·)))=true:=by kernel_rfl
theorem zfn:((Rows.assemblyFewerRow.mapsOut==Tryz.prog.mapsAmong Tryz.f6.resultTypes.toList))=true:=by kernel_rfl
theorem zfm:((Rows.assemblyFewerRow.loops==(Tryz.f6.params.toList++Rows.assemblyFewerSpec.plain.varTypes Tryz.prog).any (Tryz.prog.loopsFrom ·)))=true:=by kernel_rfl
theorem zfl:((Rows.assemblyFewerRow.wideKeys==(Tryz.f6.params.toList++Rows.assemblyFewerSpec.plain.varTypes Tryz.prog++Tryz.f6.resultTypes.toList).any (Tryz.prog.wideKeysFrom ·)))=true:=by kernel_rfl
theorem zfk:(Rows.assemblyFewerSpec.vars.all (Tryz.prog.varReadable ·))=true:=by kernel_rfl
theorem zfj:(Tryz.f6.resultTypes.all (fun t=>Tryz.prog.readableRec t&&decide (t<Tryz.prog.types.size)))=true:=by kernel_rfl
theorem zfi:((Rows.assemblyFewerRow.ifacesOut==Tryz.f6.resultTypes.toList.any (Tryz.prog.ifacesRec ·)))=true:=by kernel_rfl
theorem zfh:((Rows.assemblyFewerRow.loopsOut==Tryz.f6.resultTypes.toList.any (Tryz.prog.loopsFrom ·)))=true:=by kernel_rfl
theorem zfg:((Rows.assemblyFewerRow.plainKeys==Tryz.prog.plainKeys))=true:=by kernel_rfl
theorem zff:(Rows.assemblyFewerRow.shortTexts.isNone)=true:=by kernel_rfl
theorem zfe:(Tryz.prog.stopsHeard)=true:=by kernel_rfl
theorem zfd:(Tryz.prog.mayEnter)=true:=by kernel_rfl
theorem zfc:((Rows.assemblyFewerRow.lifted==Tryz.prog.liftsFinal))=true:=by kernel_rfl
theorem zfb:((Tryz.prog.make==some Rows.assemblyFewerRow.make))=true:=by kernel_rfl
theorem zfa:((Rows.assemblyFewerRow.kinds==(if Rows.assemblyFewerRow.domain.isEmpty then []else Tryz.f6.params.toList.map fun t=>match Tryz.prog.underlying t with|some (.int k)=>some k|_=>none)))=true:=by kernel_rfl
theorem zeZ:((Rows.assemblyFewerRow.pinned==Rows.assemblyFewerRow.pinnedBy))=true:=by kernel_rfl
theorem zeY:((Rows.assemblyFewerRow.veiled==(Tryz.f6.params.toList++Rows.assemblyFewerSpec.plain.varTypes Tryz.prog++Tryz.f6.resultTypes.toList).any (Tryz.prog.veiledRec ·)))=true:=by kernel_rfl
theorem zeX:(Rows.assemblyFewerRow.veiledFits Tryz.prog Tryz.f6.params.toList (Tryz.f6.params.toList++Rows.assemblyFewerSpec.plain.varTypes Tryz.prog++Tryz.f6.resultTypes.toList))=true:=by kernel_rfl
end Go.Proofs.YtocnbjjmmgolfaaGreat
