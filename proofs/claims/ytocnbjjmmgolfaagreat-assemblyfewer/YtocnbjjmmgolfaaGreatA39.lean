/- AssemblyFewer: THE STATEMENT, PROVED: for every input the law returns true, and its arguments stand as they did. -/
import Derived.Test.YtocnbjjmmgolfaaGreatA36
import Derived.Test.YtocnbjjmmgolfaaGreatA37
import Derived.Test.YtocnbjjmmgolfaaGreatA38
import Derived.OpenShut
import Derived.Handed
set_option linter.unusedSimpArgs false
set_option linter.unusedVariables false
set_option linter.unusedSectionVars false
namespace Go.Proofs.YtocnbjjmmgolfaaGreat
open Go Go.M Go.ChangeShapes Go.WideShapes Go.ChangeAt Go.RowKit
theorem Tq.own:ownKnob Tryz.prog.godebug=none:=by kernel_rfl
theorem Tq.laidOut:laidOutB Tryz.prog=true:=by kernel_rfl
theorem Tq.cells3:Tryz.prog.cellsOf 3=1:=by kernel_rfl
theorem zaR{z:Int}(h:(Lit.int .i64 z).wf=true):yv z:=by
 simp[Lit.wf,IntKind.min,IntKind.max,IntKind.signed,IntKind.bits]at h
 unfold yv
 omega
set_option maxRecDepth 10000 in
theorem open_arg{H:Type}{enc:TypeId×Value→H}{W:World}{base:Nat}{a0:Option Addr}{len cap:Nat}{d:DataW H}{p:List MemPlace}(b:Nat)
 (h:DataW.Trod enc Tryz.prog W 0 (fun _=>true) true 22 (.slice a0 len cap) d p) (k:Value.okWide Tryz.prog W .any base 22 (.slice a0 len cap))
 (hfz:∀blk o,MemPlace.cell blk o∈p→W.frozen? ⟨blk,o,none⟩=false):∃mo v l,ArgOK W b mo v (.slice a0 len cap) l∧L64 l:=by
 obtain⟨fuel,hf⟩:=h
 rcases open_ints Tryz.underlying22 Tryz.underlying3 Tq.cells3 hf with⟨c,hx⟩|⟨a,len',cap',zs,c,_,m,hm,r,hx,f,n⟩
 ·simp[Value.cells]at c
  obtain⟨rfl,rfl,rfl⟩:=c
  exact⟨_,_,_,zgR W b,fun x hx=>by simp at hx⟩
 ·simp[Value.cells]at c
  obtain⟨rfl,rfl,rfl⟩:=c
  simp only[dO]at r
  simp only[Prod.mk.injEq]at hx
  simp only[Value.okWide,Tryz.underlying22,Cell.okWide,Cell.ok]at k
  obtain⟨_,_,j⟩:=k
  obtain⟨_,g,row,cells,e,_⟩:=j
  obtain⟨mo,v,ha⟩:=arg_slice g r m ⟨_,e⟩ f (fun i hi=>hfz a.block (a.off+i) (by
   rw[hx.2,MemPlace.mem_row]
   exact⟨i,by omega,rfl⟩)) b
  exact⟨mo,v,_,ha,fun x q=>zaR (n x (eS q))⟩
def noT:zU:=fun _=>none
theorem noT_ok:TableS Tryz.prog noT:=⟨fun f g h=>(by cases h),fun f g h=>(by cases h),fun f g h=>(by cases h)⟩
set_option maxRecDepth 100000 in
theorem zej(os:Os)(started:os.Started)(H:Type)(enc:TypeId×Value→H) :
 ReturnsInHanded {} Tryz.checked os 6 .any (Rows.assemblyFewerSpec.pre6 enc Tryz.prog Tryz.f6 Rows.assemblyFewerRow.domain false) (Rows.assemblyFewerSpec.post enc Tryz.prog Tryz.f6 false true false false):=by
 refine returnsInHanded_of_change (C:=Tryz.checked) Tq.own started Z0 Tryz.func6
  (ChangeSpec.witness6 (enc:=enc) (C:=Tryz.checked) false ⟨#[],#[.slice none 0 0,.int .i64 0,.int .i64 0,.int .i64 0,.int .i64 0],[]⟩ 8 Z0 Z0 Z0 Z0) ?_
 intro W base args Q gs before l F _ _
 have a:∀(j:Nat) t v,Tryz.f6.params[j]? = some t→args[j]? = some v→Value.okWide Tryz.prog W .any base t v:=l
 have m:=F
 obtain⟨p,q,B,T,rfl,hfz,_⟩:=F
 have b:DataW.TrodAll enc Tryz.prog W 0 (fun _=>true) true Tryz.f6.params.toList args.toList Q p:=B
 rw[Tryz.params6]at b a
 obtain⟨J,vs0,d0,ds0,G,q0,ha0,rfl,rfl,h0,b⟩:=trodAll_cons b
 obtain⟨v1,vs1,d1,ds1,p1,q1,rfl,rfl,rfl,h1,b⟩:=trodAll_cons b
 obtain⟨v2,vs2,d2,ds2,p2,q2,rfl,rfl,rfl,h2,b⟩:=trodAll_cons b
 obtain⟨K,vs3,d3,ds3,p3,q3,rfl,rfl,rfl,R,b⟩:=trodAll_cons b
 obtain⟨L,vs4,d4,ds4,p4,q4,rfl,rfl,rfl,S,b⟩:=trodAll_cons b
 obtain⟨rfl,rfl,rfl⟩:=trodAll_nil b
 obtain⟨rfl,rfl⟩:=trodVars_none T
 have c:args = #[J,v1,v2,K,L]:=by cases args;simp_all
 subst c
 obtain⟨a0,len0,cap0,rfl⟩:=okWide_slice Tryz.underlying22 (a 0 22 J rfl rfl)
 obtain⟨w,rfl,rfl,rfl,M⟩:=open_int Tryz.underlying3 (a 1 3 v1 rfl rfl) h1
 obtain⟨y,rfl,rfl,rfl,N⟩:=open_int Tryz.underlying3 (a 2 3 v2 rfl rfl) h2
 obtain⟨z,rfl,rfl,rfl,O⟩:=open_int Tryz.underlying3 (a 3 3 K rfl rfl) R
 obtain⟨n4,rfl,rfl,rfl,P⟩:=open_int Tryz.underlying3 (a 4 3 L rfl rfl) S
 have r:∀x∈G,x.block<W.heap.size:=fun x hx=>m.lt x (by simp[hx])
 have i:∀W',Below W.heap.size W W'→Rows.assemblyFewerSpec.post enc Tryz.prog Tryz.f6 false true false false W #[.slice a0 len0 cap0,.int .i64 w,.int .i64 y,.int .i64 z,.int .i64 n4] (.bool true) W':=by
  intro W' A
  refine⟨_,_,_,[],G++([]++([]++([]++([]++[])))),[],m,?_,?_,?_,A.frame _,fun h=>by cases h⟩
  ·exact trodAll_mk1 (shut_bool Tryz.underlying4 true)
  ·exact trodAll_cons_mk (Below.trod Tq.laidOut Z0 (dR Z0) h0 A r) (trodAll_cons_mk (shut_int Tryz.underlying3 M) (trodAll_cons_mk (shut_int Tryz.underlying3 N) (trodAll_cons_mk (shut_int Tryz.underlying3 O) (trodAll_cons_mk (shut_int Tryz.underlying3 P) trodAll_mk0))))
  ·rfl
 obtain⟨mo0,I,Z,g0,X⟩:=open_arg 0 h0 (a 0 22 _ rfl rfl) fun blk o hx=>hfz blk o (by simp[hx])
 obtain⟨β,s,U,u,r0,-,d,E,Y,-,g,f,k⟩:=start2 g0 (zgR W 1)
 have n:DecI noT 6 68899830163188 [S3,.int .i64,.int .i64,.int .i64,.int .i64] .bool fun x=>z6 x.1 x.2.1 x.2.2.1 x.2.2.2.1 x.2.2.2.2:=t6 6 _ rfl (fun _=>rfl)
 obtain⟨v',s',V,D,_,hv⟩:=n d E (vs:=[I,.int .i64 w,.int .i64 y,.int .i64 z,.int .i64 n4]) (x:=(Z,w,y,z,n4)) ⟨I,_,rfl,Y,.int .i64 w,_,rfl,rfl,.int .i64 y,_,rfl,rfl,.int .i64 z,_,rfl,rfl,.int .i64 n4,rfl,rfl⟩ (z6_true X (zaR M) (zaR N) (zaR O) (zaR P)) (by rw[g];unfold zw;decide)
 obtain rfl:v'=.bool true:=hv
 refine(zbe noT_ok rfl u (args':= #[.slice a0 len0 cap0,.int .i64 w,.int .i64 y,.int .i64 z,.int .i64 n4]) (.cons r0 (.cons (.int _ _) (.cons (.int _ _) (.cons (.int _ _) (.cons (.int _ _) .nil))))) f k V).mono fun e W' hp=>?_
 cases e with
 |returned x=>obtain⟨rfl,A⟩:=hp;exact⟨_,rfl,i W' A⟩
 |_=>exact hp.elim
theorem zaz:Tryz.prog.funcNamed Rows.assemblyFewerRow.func=some 6:=by kernel_rfl
set_option maxRecDepth 100000 in
theorem VP:joinedFacts Tryz.prog 6 Tryz.f6 Rows.assemblyFewerSpec Rows.assemblyFewerRow=true:=(xY (xY (xY (xY (xY (xY (xY (xY (xY (xY (xY (xY (xY (xY (xY (xY (xY (xY (xY (xY (xY (xY (xY (xY (xY (xY (xY (xY (xY (xY (xY checks_k0 checks_k1) checks_k2) checks_k3) checks_k4) checks_k5) checks_k6) checks_k7) checks_k8) checks_k9) zfs) zfr) zfq) zfp) zfo) zfn) zfm) zfl) zfk) zfj) zfi) zfh) zfg) zff) zfe) zfd) zfc) zfb) zfa) zeZ) zeY) zeX)
theorem zcN:Tryz.f6.isInstance Tryz.prog Rows.assemblyFewerRow.origin Rows.assemblyFewerRow.targs:=dR Z0
theorem zcM:Tryz.f6.isWrapper Tryz.prog Rows.assemblyFewerRow.wrapper Rows.assemblyFewerRow.mainSum:=by
 unfold Func.isWrapper
 first|(rw[aG (by decide +kernel)];kernel_rfl)|(rw[aE (by decide +kernel)];exact⟨rfl,rfl⟩)
set_option maxRecDepth 100000 in
theorem assemblyFewer_holds:Rows.AssemblyFewerSaid:=
 OpenClaim.holds_of_wide 6 Tryz.f6 rfl rfl rfl rfl rfl rfl rfl ⟨rfl,rfl,rfl,rfl,rfl⟩ rfl rfl rfl rfl rfl zaz Tryz.func6 VP
  zcN zcM (fun os started H enc _=>zej os started H enc)
end Go.Proofs.YtocnbjjmmgolfaaGreat
