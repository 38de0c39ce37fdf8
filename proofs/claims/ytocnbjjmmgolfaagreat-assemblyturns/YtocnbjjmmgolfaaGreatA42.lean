/- The closed facts of the row of AssemblyTurns, one by one. -/
import Derived.Test.YtocnbjjmmgolfaaGreatA31
import Derived.Test.YtocnbjjmmgolfaaGreatRows
import Derived.ProofKit
namespace Go.Proofs.YtocnbjjmmgolfaaGreat
open Go
theorem kP{a b:Bool}(h:a=true)(h':b=true):(a&&b)=true:=by rw[h,h'];rfl
theorem turns_k0:(Rows.assemblyTurnsRow.wf (OpenSpec.ofChange Rows.assemblyTurnsSpec))=true:=by kernel_rfl
theorem turns_k1:(laidOutB Tryz.prog)=true:=by kernel_rfl
theorem turns_k2:(mapsRowed Tryz.prog)=true:=by kernel_rfl
theorem turns_k3:(Tryz.f3.params.all (Tryz.prog.readableRec ·))=true:=by kernel_rfl
theorem turns_k4:(namedTie Tryz.prog Rows.assemblyTurnsRow.named Rows.assemblyTurnsSpec.vars)=true:=by kernel_rfl
theorem turns_k5:((Rows.assemblyTurnsRow.stops==[]))=true:=by kernel_rfl
theorem turns_k6:((Tryz.prog.stops==[]))=true:=by kernel_rfl
theorem turns_k7:((Rows.assemblyTurnsRow.knobs==[]))=true:=by kernel_rfl
theorem turns_k8:((Tryz.prog.stopKnobs==[]))=true:=by kernel_rfl
theorem turns_k9:((Rows.assemblyTurnsRow.inPlace==Tryz.prog.inPlace 3))=true:=by kernel_rfl
theorem turns_k10:((Rows.assemblyTurnsRow.unfollowed==Tryz.prog.unfollowed 3))=true:=by kernel_rfl
theorem turns_k11:((Rows.assemblyTurnsRow.recurses==Tryz.prog.recurses 3))=true:=by kernel_rfl
theorem turns_k12:((Rows.assemblyTurnsRow.named==Tryz.prog.varsNamed 3))=true:=by kernel_rfl
theorem turns_k13:((Rows.assemblyTurnsRow.maps==(Tryz.f3.params.toList++Rows.assemblyTurnsSpec.plain.varTypes Tryz.prog).any (Tryz.prog.mapsRec ·)))=true:=by kernel_rfl
theorem turns_k14:((Rows.assemblyTurnsRow.ifaces==(Tryz.f3.params.toList++Rows.assemblyTurnsSpec.plain.varTypes Tryz.prog).any (Tryz.prog.ifacesRec ·)))=true:=by kernel_rfl
theorem turns_k15:((Rows.assemblyTurnsRow.mapsOut==Tryz.prog.mapsAmong Tryz.f3.resultTypes.toList))=true:=by kernel_rfl
theorem turns_k16:((Rows.assemblyTurnsRow.loops==(Tryz.f3.params.toList++Rows.assemblyTurnsSpec.plain.varTypes Tryz.prog).any (Tryz.prog.loopsFrom ·)))=true:=by kernel_rfl
theorem turns_k17:((Rows.assemblyTurnsRow.wideKeys==(Tryz.f3.params.toList++Rows.assemblyTurnsSpec.plain.varTypes Tryz.prog++Tryz.f3.resultTypes.toList).any (Tryz.prog.wideKeysFrom ·)))=true:=by kernel_rfl
theorem turns_k18:(Rows.assemblyTurnsSpec.vars.all (Tryz.prog.varReadable ·))=true:=by kernel_rfl
theorem turns_k19:(Tryz.f3.resultTypes.all (fun t=>Tryz.prog.readableRec t&&decide (t<Tryz.prog.types.size)))=true:=by kernel_rfl
theorem turns_k20:((Rows.assemblyTurnsRow.ifacesOut==Tryz.f3.resultTypes.toList.any (Tryz.prog.ifacesRec ·)))=true:=by kernel_rfl
theorem turns_k21:((Rows.assemblyTurnsRow.loopsOut==Tryz.f3.resultTypes.toList.any (Tryz.prog.loopsFrom ·)))=true:=by kernel_rfl
theorem turns_k22:((Rows.assemblyTurnsRow.plainKeys==Tryz.prog.plainKeys))=true:=by kernel_rfl
theorem turns_k23:(Rows.assemblyTurnsRow.shortTexts.isNone)=true:=by kernel_rfl
theorem turns_k24:(Tryz.prog.stopsHeard)=true:=by kernel_rfl
theorem turns_k25:(Tryz.prog.mayEnter)=true:=by kernel_rfl
theorem turns_k26:((Rows.assemblyTurnsRow.lifted==Tryz.prog.liftsFinal))=true:=by kernel_rfl
theorem turns_k27:((Tryz.prog.make==some Rows.assemblyTurnsRow.make))=true:=by kernel_rfl
theorem turns_k28:((Rows.assemblyTurnsRow.kinds==(if Rows.assemblyTurnsRow.domain.isEmpty then []else Tryz.f3.params.toList.map fun t=>match Tryz.prog.underlying t with|some (.int k)=>some k|_=>none)))=true:=by kernel_rfl
theorem turns_k29:((Rows.assemblyTurnsRow.pinned==Rows.assemblyTurnsRow.pinnedBy))=true:=by kernel_rfl
theorem turns_k30:((Rows.assemblyTurnsRow.veiled==(Tryz.f3.params.toList++Rows.assemblyTurnsSpec.plain.varTypes Tryz.prog++Tryz.f3.resultTypes.toList).any (Tryz.prog.veiledRec ·)))=true:=by kernel_rfl
theorem turns_k31:(Rows.assemblyTurnsRow.veiledFits Tryz.prog Tryz.f3.params.toList (Tryz.f3.params.toList++Rows.assemblyTurnsSpec.plain.varTypes Tryz.prog++Tryz.f3.resultTypes.toList))=true:=by kernel_rfl
end Go.Proofs.YtocnbjjmmgolfaaGreat
