/- The closed facts of the row of AssemblyBroken, one by one. -/
import Derived.Test.YtocnbjjmmgolfaaGreatA09
import Derived.Test.YtocnbjjmmgolfaaGreatRows
import Derived.ProofKit
set_option linter.unusedSimpArgs false
set_option linter.unusedVariables false
set_option linter.unusedSectionVars false
namespace Go.Proofs.YtocnbjjmmgolfaaGreat
open Go
theorem xY{a b:Bool}(h:a=true)(c:b=true):(a&&b)=true:=by rw[h,c];rfl
theorem iW:(Rows.assemblyBrokenRow.wf (OpenSpec.ofChange Rows.assemblyBrokenSpec))=true:=by kernel_rfl
theorem iX:(laidOutB Tryz.prog)=true:=by kernel_rfl
theorem iY:(mapsRowed Tryz.prog)=true:=by kernel_rfl
theorem iZ:(Tryz.f7.params.all (Tryz.prog.readableRec ·))=true:=by kernel_rfl
theorem kf:(namedTie Tryz.prog Rows.assemblyBrokenRow.named Rows.assemblyBrokenSpec.vars)=true:=by kernel_rfl
theorem kr:((Rows.assemblyBrokenRow.stops==[]))=true:=by kernel_rfl
theorem ks:((Tryz.prog.stops==[]))=true:=by kernel_rfl
theorem kt:((Rows.assemblyBrokenRow.knobs==[]))=true:=by kernel_rfl
theorem k5:((Tryz.prog.stopKnobs==[]))=true:=by kernel_rfl
theorem ld:((Rows.assemblyBrokenRow.inPlace==Tryz.prog.inPlace 7))=true:=by kernel_rfl
theorem zgg:((Rows.assemblyBrokenRow.unfollowed==Tryz.prog.unfollowed 7))=true:=by kernel_rfl
theorem zgf:((Rows.assemblyBrokenRow.recurses==Tryz.prog.recurses 7))=true:=by kernel_rfl
theorem zge:((Rows.assemblyBrokenRow.named==Tryz.prog.varsNamed 7))=true:=by kernel_rfl
theorem zgd:((Rows.assemblyBrokenRow.maps==(Tryz.f7.params.toList++Rows.assemblyBrokenSpec.plain.varTypes Tryz.prog).any (Tryz.prog.mapsRec ·)))=true:=by kernel_rfl
theorem zgc:((Rows.assemblyBrokenRow.ifaces==(Tryz.f7.params.toList++Rows.assemblyBrokenSpec.plain.varTypes Tryz.prog).any (Tryz.prog.ifacesRec ·)))=true:=by kernel_rfl
theorem zgb:((Rows.assemblyBrokenRow.mapsOut==Tryz.prog.mapsAmong Tryz.f7.resultTypes.toList))=true:=by kernel_rfl
theorem zga:((Rows.assemblyBrokenRow.loops==(Tryz.f7.params.toList++Rows.assemblyBrokenSpec.plain.varTypes Tryz.prog).any (Tryz.prog.loopsFrom ·)))=true:=by kernel_rfl
theorem zfZ:((Rows.assemblyBrokenRow.wideKeys==(Tryz.f7.params.toList++Rows.assemblyBrokenSpec.plain.varTypes Tryz.prog++Tryz.f7.resultTypes.toList).any (Tryz.prog.wideKeysFrom ·)))=true:=by kernel_rfl
theorem zfY:(Rows.assemblyBrokenSpec.vars.all (Tryz.prog.varReadable ·))=true:=by kernel_rfl
theorem zfX:(Tryz.f7.resultTypes.all (λt=>Tryz.prog.readableRec t&&decide (t<Tryz.prog.types.size)))=true:=by kernel_rfl
theorem zfW:((Rows.assemblyBrokenRow.ifacesOut==Tryz.f7.resultTypes.toList.any (Tryz.prog.ifacesRec ·)))=true:=by kernel_rfl
theorem zfV:((Rows.assemblyBrokenRow.loopsOut==Tryz.f7.resultTypes.toList.any (Tryz.prog.loopsFrom ·)))=true:=by kernel_rfl
theorem zfU:((Rows.assemblyBrokenRow.plainKeys==Tryz.prog.plainKeys))=true:=by kernel_rfl
theorem zfT:(Rows.assemblyBrokenRow.shortTexts.isNone)=true:=by kernel_rfl
theorem zfS:(Tryz.prog.stopsHeard)=true:=by kernel_rfl
theorem zfR:(Tryz.prog.mayEnter)=true:=by kernel_rfl
theorem zfQ:((Rows.assemblyBrokenRow.lifted==Tryz.prog.liftsFinal))=true:=by kernel_rfl
theorem zfP:((Tryz.prog.make==some Rows.assemblyBrokenRow.make))=true:=by kernel_rfl
theorem zfO:((Rows.assemblyBrokenRow.kinds==(if Rows.assemblyBrokenRow.domain.isEmpty then []else Tryz.f7.params.toList.map λt=>match Tryz.prog.underlying t with|some (.int k)=>some k|_=>none)))=true:=by kernel_rfl
theorem zfN:((Rows.assemblyBrokenRow.pinned==Rows.assemblyBrokenRow.pinnedBy))=true:=by kernel_rfl
theorem zfM:((Rows.assemblyBrokenRow.veiled==(Tryz.f7.params.toList++Rows.assemblyBrokenSpec.plain.varTypes Tryz.prog++Tryz.f7.resultTypes.toList).any (Tryz.prog.veiledRec ·)))=true:=by kernel_rfl
theorem zfL:(Rows.assemblyBrokenRow.veiledFits Tryz.prog Tryz.f7.params.toList (Tryz.f7.params.toList++Rows.assemblyBrokenSpec.plain.varTypes Tryz.prog++Tryz.f7.resultTypes.toList))=true:=by kernel_rfl
end Go.Proofs.YtocnbjjmmgolfaaGreat
