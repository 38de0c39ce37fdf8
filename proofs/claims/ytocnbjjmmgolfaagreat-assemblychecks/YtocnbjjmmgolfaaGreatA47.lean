/- The closed facts of the row of AssemblyChecks, one by one. -/
import Derived.Test.YtocnbjjmmgolfaaGreatA11
import Derived.Test.YtocnbjjmmgolfaaGreatRows
import Derived.ProofKit
namespace Go.Proofs.YtocnbjjmmgolfaaGreat
open Go
theorem yS{a b:Bool}(h:a=true)(h':b=true):(a&&b)=true:=by rw[h,h'];rfl
theorem checks_k0:(Rows.assemblyChecksRow.wf (OpenSpec.ofChange Rows.assemblyChecksSpec))=true:=by kernel_rfl
theorem checks_k1:(laidOutB Tryz.prog)=true:=by kernel_rfl
theorem checks_k2:(mapsRowed Tryz.prog)=true:=by kernel_rfl
theorem checks_k3:(Tryz.f4.params.all (Tryz.prog.readableRec ·))=true:=by kernel_rfl
theorem checks_k4:(namedTie Tryz.prog Rows.assemblyChecksRow.named Rows.assemblyChecksSpec.vars)=true:=by kernel_rfl
theorem checks_k5:((Rows.assemblyChecksRow.stops==[]))=true:=by kernel_rfl
theorem checks_k6:((Tryz.prog.stops==[]))=true:=by kernel_rfl
theorem checks_k7:((Rows.assemblyChecksRow.knobs==[]))=true:=by kernel_rfl
theorem checks_k8:((Tryz.prog.stopKnobs==[]))=true:=by kernel_rfl
theorem checks_k9:((Rows.assemblyChecksRow.inPlace==Tryz.prog.inPlace 4))=true:=by kernel_rfl
theorem checks_k10:((Rows.assemblyChecksRow.unfollowed==Tryz.prog.unfollowed 4))=true:=by kernel_rfl
theorem checks_k11:((Rows.assemblyChecksRow.recurses==Tryz.prog.recurses 4))=true:=by kernel_rfl
theorem checks_k12:((Rows.assemblyChecksRow.named==Tryz.prog.varsNamed 4))=true:=by kernel_rfl
theorem checks_k13:((Rows.assemblyChecksRow.maps==(Tryz.f4.params.toList++Rows.assemblyChecksSpec.plain.varTypes Tryz.prog).any (Tryz.prog.mapsRec ·)))=true:=by kernel_rfl
theorem checks_k14:((Rows.assemblyChecksRow.ifaces==(Tryz.f4.params.toList++Rows.assemblyChecksSpec.plain.varTypes Tryz.prog).any (Tryz.prog.ifacesRec ·)))=true:=by kernel_rfl
theorem checks_k15:((Rows.assemblyChecksRow.mapsOut==Tryz.prog.mapsAmong Tryz.f4.resultTypes.toList))=true:=by kernel_rfl
theorem checks_k16:((Rows.assemblyChecksRow.loops==(Tryz.f4.params.toList++Rows.assemblyChecksSpec.plain.varTypes Tryz.prog).any (Tryz.prog.loopsFrom ·)))=true:=by kernel_rfl
theorem checks_k17:((Rows.assemblyChecksRow.wideKeys==(Tryz.f4.params.toList++Rows.assemblyChecksSpec.plain.varTypes Tryz.prog++Tryz.f4.resultTypes.toList).any (Tryz.prog.wideKeysFrom ·)))=true:=by kernel_rfl
theorem checks_k18:(Rows.assemblyChecksSpec.vars.all (Tryz.prog.varReadable ·))=true:=by kernel_rfl
theorem checks_k19:(Tryz.f4.resultTypes.all (fun t=>Tryz.prog.readableRec t&&decide (t<Tryz.prog.types.size)))=true:=by kernel_rfl
theorem checks_k20:((Rows.assemblyChecksRow.ifacesOut==Tryz.f4.resultTypes.toList.any (Tryz.prog.ifacesRec ·)))=true:=by kernel_rfl
theorem checks_k21:((Rows.assemblyChecksRow.loopsOut==Tryz.f4.resultTypes.toList.any (Tryz.prog.loopsFrom ·)))=true:=by kernel_rfl
theorem checks_k22:((Rows.assemblyChecksRow.plainKeys==Tryz.prog.plainKeys))=true:=by kernel_rfl
theorem checks_k23:(Rows.assemblyChecksRow.shortTexts.isNone)=true:=by kernel_rfl
theorem checks_k24:(Tryz.prog.stopsHeard)=true:=by kernel_rfl
theorem checks_k25:(Tryz.prog.mayEnter)=true:=by kernel_rfl
theorem checks_k26:((Rows.assemblyChecksRow.lifted==Tryz.prog.liftsFinal))=true:=by kernel_rfl
theorem checks_k27:((Tryz.prog.make==some Rows.assemblyChecksRow.make))=true:=by kernel_rfl
theorem checks_k28:((Rows.assemblyChecksRow.kinds==(if Rows.assemblyChecksRow.domain.isEmpty then []else Tryz.f4.params.toList.map fun t=>match Tryz.prog.underlying t with|some (.int k)=>some k|_=>none)))=true:=by kernel_rfl
theorem checks_k29:((Rows.assemblyChecksRow.pinned==Rows.assemblyChecksRow.pinnedBy))=true:=by kernel_rfl
theorem checks_k30:((Rows.assemblyChecksRow.veiled==(Tryz.f4.params.toList++Rows.assemblyChecksSpec.plain.varTypes Tryz.prog++Tryz.f4.resultTypes.toList).any (Tryz.prog.veiledRec ·)))=true:=by kernel_rfl
theorem checks_k31:(Rows.assemblyChecksRow.veiledFits Tryz.prog Tryz.f4.params.toList (Tryz.f4.params.toList++Rows.assemblyChecksSpec.plain.varTypes Tryz.prog++Tryz.f4.resultTypes.toList))=true:=by kernel_rfl
end Go.Proofs.YtocnbjjmmgolfaaGreat
