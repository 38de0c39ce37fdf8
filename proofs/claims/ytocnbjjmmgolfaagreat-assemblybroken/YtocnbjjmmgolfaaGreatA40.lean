/- AssemblyBroken: THE STATEMENT, PROVED: for every input the law returns true, and its arguments read as they did. -/
import Derived.Test.YtocnbjjmmgolfaaGreatA37
import Derived.Test.YtocnbjjmmgolfaaGreatA38
import Derived.Test.YtocnbjjmmgolfaaGreatA39
import Derived.OpenShut
import Derived.Handed
set_option linter.unusedSimpArgs false
set_option linter.unusedVariables false
set_option linter.unusedSectionVars false
namespace Go.Proofs.YtocnbjjmmgolfaaGreat
open Go Go.M Go.ChangeShapes Go.WideShapes Go.ChangeAt Go.RowKit
theorem Tq.own:ownKnob Tryz.prog.godebug=none:=by kernel_rfl
theorem Tq.laidOut:laidOutB Tryz.prog=true:=by kernel_rfl
theorem Tq.cells3:Tryz.prog.cellsOf 3=1:=by kernel_rfl
theorem P7{z:Int}(h:(Lit.int .i64 z).wf=true):xc z:=by
 simp[Lit.wf,IntKind.min,IntKind.max,IntKind.signed,IntKind.bits]at h
 unfold xc
 omega
set_option maxRecDepth 10000 in
theorem pZ{H:Type}{enc:TypeId×Value->H}{W:World}{base:Nat}{a0:Option Addr}{len cap:Nat}{d:DataW H}{p:List MemPlace}(b:Nat)
 (h:DataW.Trod enc Tryz.prog W 0 (λ_=>true) true 22 (.slice a0 len cap) d p) (k:Value.okWide Tryz.prog W .any base 22 (.slice a0 len cap))
 (hfz:∀blk o,MemPlace.cell blk o∈p->W.frozen? ⟨blk,o,none⟩=false):∃mo v l,fX W b mo v (.slice a0 len cap) l/\Kj l:=by
 obtain⟨fuel,hf⟩:=h
 rcases open_ints Tryz.underlying22 Tryz.underlying3 Tq.cells3 hf with⟨c,hx⟩|⟨a,len',cap',zs,c,_,hle,hm,q,hx,f,m⟩
 .simp[Value.cells]at c
  obtain⟨rfl,rfl,rfl⟩:=c
  exact⟨_,_,_,zhO W b,λx hx=>by simp at hx⟩
 .simp[Value.cells]at c
  obtain⟨rfl,rfl,rfl⟩:=c
  simp only[dQ]at q
  simp only[Prod.mk.injEq]at hx
  simp only[Value.okWide,Tryz.underlying22,Cell.okWide,Cell.ok]at k
  obtain⟨_,_,j⟩:=k
  obtain⟨_,g,row,cells,e,_⟩:=j
  obtain⟨mo,v,ha⟩:=iM g q hle ⟨_,e⟩ f (λi hi=>hfz a.block (a.off+i) (by
   rw[hx.2,MemPlace.mem_row]
   exact⟨i,by omega,rfl⟩)) b
  exact⟨mo,v,_,ha,λx n=>P7 (m x (List.mem_of_mem_take n))⟩
def noT:zZ:=λ_=>none
theorem Hh:c6 Tryz.prog noT:=⟨λf g h=>(by cases h),λf g h=>(by cases h),λf g h=>(by cases h)⟩
set_option maxRecDepth 100000 in
theorem zeZ(os:Os)(started:os.Started)(H:Type)(enc:TypeId×Value->H) :
 ReturnsInHanded {} Tryz.checked os 7 .any (Rows.assemblyBrokenSpec.pre6 enc Tryz.prog Tryz.f7 Rows.assemblyBrokenRow.domain false) (Rows.assemblyBrokenSpec.post enc Tryz.prog Tryz.f7 false true false false):=by
 refine returnsInHanded_of_change (C:=Tryz.checked) Tq.own started Z0 Tryz.func7
  (ChangeSpec.witness6 (enc:=enc) (C:=Tryz.checked) false ⟨#[],#[.slice none 0 0],[]⟩ 8 Z0 Z0 Z0 Z0) ?_
 intro W base args I gs before m E _ _
 have a:∀(j:Nat) t v,Tryz.f7.params[j]? = some t->args[j]? = some v->Value.okWide Tryz.prog W .any base t v:=m
 have n:=E
 obtain⟨p,q,A,J,rfl,hfz,_⟩:=E
 have y:DataW.TrodAll enc Tryz.prog W 0 (λ_=>true) true Tryz.f7.params.toList args.toList I p:=A
 rw[Tryz.params7]at y a
 obtain⟨v0,vs0,d0,ds0,F,q0,ha0,rfl,rfl,h0,y⟩:=trodAll_cons y
 obtain⟨rfl,rfl,rfl⟩:=trodAll_nil y
 obtain⟨rfl,rfl⟩:=trodVars_none J
 have d:args = #[v0]:=by cases args;simp_all
 subst d
 obtain⟨a0,c,b,rfl⟩:=okWide_slice Tryz.underlying22 (a 0 22 v0 rfl rfl)
 have u:∀x∈F,x.block<W.heap.size:=λx hx=>n.lt x (by simp[hx])
 have k:∀W',Below W.heap.size W W'->Rows.assemblyBrokenSpec.post enc Tryz.prog Tryz.f7 false true false false W #[.slice a0 c b] (.bool true) W':=by
  intro W' z
  refine⟨_,_,_,[],F++[],[],n,?_,?_,?_,z.frame _,λh=>by cases h⟩
  .exact trodAll_mk1 (shut_bool Tryz.underlying4 true)
  .exact trodAll_cons_mk (Below.trod Tq.laidOut Z0 (cO Z0) h0 z u) trodAll_mk0
  .rfl
 obtain⟨mo0,G,M,g0,i0⟩:=pZ 0 h0 (a 0 22 _ rfl rfl) λblk o hx=>hfz blk o (by simp[hx])
 obtain⟨β,s,U,w,r0,-,f,B,L,-,i,g,l⟩:=HQ g0 (zhO W 1)
 have r:tT noT 7 24290890211086 [S3] .bool λx=>z7 x:=t7 7 _ rfl (λ_=>rfl)
 obtain⟨v',s',K,D,_,hv⟩:=r f B (vs:=[G]) (x:=M) ⟨G,rfl,L⟩ (Co i0) (by rw[i];unfold zA;decide)
 obtain rfl:v'=.bool true:=hv
 refine(zbV Hh rfl w (args':= #[.slice a0 c b]) (.cons r0 .nil) g l K).mono λe W' hp=>?_
 cases e with
 |returned x=>obtain⟨rfl,z⟩:=hp;exact⟨_,rfl,k W' z⟩
 |_=>exact hp.elim
theorem zbm:Tryz.prog.funcNamed Rows.assemblyBrokenRow.func=some 7:=by kernel_rfl
set_option maxRecDepth 100000 in
theorem Wx:joinedFacts Tryz.prog 7 Tryz.f7 Rows.assemblyBrokenSpec Rows.assemblyBrokenRow=true:=(xY (xY (xY (xY (xY (xY (xY (xY (xY (xY (xY (xY (xY (xY (xY (xY (xY (xY (xY (xY (xY (xY (xY (xY (xY (xY (xY (xY (xY (xY (xY iW iX) iY) iZ) kf) kr) ks) kt) k5) ld) zgg) zgf) zge) zgd) zgc) zgb) zga) zfZ) zfY) zfX) zfW) zfV) zfU) zfT) zfS) zfR) zfQ) zfP) zfO) zfN) zfM) zfL)
theorem zdC:Tryz.f7.isInstance Tryz.prog Rows.assemblyBrokenRow.origin Rows.assemblyBrokenRow.targs:=cO Z0
theorem zdB:Tryz.f7.isWrapper Tryz.prog Rows.assemblyBrokenRow.wrapper Rows.assemblyBrokenRow.mainSum:=by
 unfold Func.isWrapper
 first|(rw[aG (by decide +kernel)];kernel_rfl)|(rw[aD (by decide +kernel)];exact⟨rfl,rfl⟩)
set_option maxRecDepth 100000 in
theorem assemblyBroken_holds:Rows.AssemblyBrokenSaid:=
 OpenClaim.holds_of_wide 7 Tryz.f7 rfl rfl rfl rfl rfl rfl rfl ⟨rfl,rfl,rfl,rfl,rfl⟩ rfl rfl rfl rfl rfl zbm Tryz.func7 Wx
  zdC zdB (λos started H enc _=>zeZ os started H enc)
end Go.Proofs.YtocnbjjmmgolfaaGreat
