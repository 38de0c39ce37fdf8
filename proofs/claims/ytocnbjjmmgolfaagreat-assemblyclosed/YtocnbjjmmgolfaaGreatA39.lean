/- AssemblyClosed: THE STATEMENT, PROVED: for every input the law returns true, and its arguments lie as they did. -/
import Derived.Test.YtocnbjjmmgolfaaGreatA36
import Derived.Test.YtocnbjjmmgolfaaGreatA37
import Derived.Test.YtocnbjjmmgolfaaGreatA38
import Derived.OpenShut
import Derived.Handed
set_option linter.unusedSimpArgs false
set_option linter.unusedVariables false
set_option linter.unusedSectionVars false
namespace Go.Proofs.YtocnbjjmmgolfaaGreat
open Go Go.M Go.ChangeShapes Go.WideShapes Go.ChangeAt Go.RowKit
theorem Tq.own:ownKnob Tryz.prog.godebug=none:=by kernel_rfl
theorem Tq.laidOut:laidOutB Tryz.prog=true:=by kernel_rfl
theorem Tq.cells3:Tryz.prog.cellsOf 3=1:=by kernel_rfl
theorem zfO{z:Int}(h:(Lit.int .i64 z).wf=true):yy z:=by
 simp[Lit.wf,IntKind.min,IntKind.max,IntKind.signed,IntKind.bits]at h
 unfold yy
 omega
set_option maxRecDepth 10000 in
theorem zcd{H:Type}{enc:TypeId×Value→H}{W:World}{base:Nat}{a0:Option Addr}{len cap:Nat}{d:DataW H}{p:List MemPlace}(b:Nat)
 (h:DataW.Trod enc Tryz.prog W 0 (fun _=>true) true 22 (.slice a0 len cap) d p) (k:Value.okWide Tryz.prog W .any base 22 (.slice a0 len cap))
 (hfz:∀blk o,MemPlace.cell blk o∈p→W.frozen? ⟨blk,o,none⟩=false):∃mo v l,ArgOK W b mo v (.slice a0 len cap) l∧L64 l:=by
 obtain⟨fuel,hf⟩:=h
 rcases open_ints Tryz.underlying22 Tryz.underlying3 Tq.cells3 hf with⟨c,hx⟩|⟨a,len',cap',zs,c,_,m,hm,r,hx,f,n⟩
 ·simp[Value.cells]at c
  obtain⟨rfl,rfl,rfl⟩:=c
  exact⟨_,_,_,arg_nil W b,fun x hx=>by simp at hx⟩
 ·simp[Value.cells]at c
  obtain⟨rfl,rfl,rfl⟩:=c
  simp only[dP]at r
  simp only[Prod.mk.injEq]at hx
  simp only[Value.okWide,Tryz.underlying22,Cell.okWide,Cell.ok]at k
  obtain⟨_,_,j⟩:=k
  obtain⟨_,g,row,cells,e,_⟩:=j
  obtain⟨mo,v,ha⟩:=arg_slice g r m ⟨_,e⟩ f (fun i hi=>hfz a.block (a.off+i) (by
   rw[hx.2,MemPlace.mem_row]
   exact⟨i,by omega,rfl⟩)) b
  exact⟨mo,v,_,ha,fun x q=>zfO (n x (eI q))⟩
def noT:zU:=fun _=>none
theorem noT_ok:TableS Tryz.prog noT:=⟨fun f g h=>(by cases h),fun f g h=>(by cases h),fun f g h=>(by cases h)⟩
set_option maxRecDepth 100000 in
theorem zeA(os:Os)(started:os.Started)(H:Type)(enc:TypeId×Value→H) :
 ReturnsInHanded {} Tryz.checked os 5 .any (Rows.assemblyClosedSpec.pre6 enc Tryz.prog Tryz.f5 Rows.assemblyClosedRow.domain false) (Rows.assemblyClosedSpec.post enc Tryz.prog Tryz.f5 false true false false):=by
 refine returnsInHanded_of_change (C:=Tryz.checked) Tq.own started Z0 Tryz.func5
  (ChangeSpec.witness6 (enc:=enc) (C:=Tryz.checked) false ⟨#[],#[.slice none 0 0,.int .i64 0,.int .i64 0,.int .i64 0,.slice none 0 0],[]⟩ 8 Z0 Z0 Z0 Z0) ?_
 intro W base args V gs before m J _ _
 have a:∀(j:Nat) t v,Tryz.f5.params[j]? = some t→args[j]? = some v→Value.okWide Tryz.prog W .any base t v:=m
 have c:=J
 obtain⟨p,q,E,Z,rfl,hfz,_⟩:=J
 have b:DataW.TrodAll enc Tryz.prog W 0 (fun _=>true) true Tryz.f5.params.toList args.toList V p:=E
 rw[Tryz.params5]at b a
 obtain⟨O,vs0,d0,ds0,K,q0,ha0,rfl,rfl,h0,b⟩:=trodAll_cons b
 obtain⟨v1,vs1,d1,ds1,p1,q1,rfl,rfl,rfl,h1,b⟩:=trodAll_cons b
 obtain⟨v2,vs2,d2,ds2,p2,q2,rfl,rfl,rfl,h2,b⟩:=trodAll_cons b
 obtain⟨P,vs3,d3,ds3,p3,q3,rfl,rfl,rfl,Y,b⟩:=trodAll_cons b
 obtain⟨Q,vs4,d4,ds4,L,q4,rfl,rfl,rfl,I,b⟩:=trodAll_cons b
 obtain⟨rfl,rfl,rfl⟩:=trodAll_nil b
 obtain⟨rfl,rfl⟩:=trodVars_none Z
 have d:args = #[O,v1,v2,P,Q]:=by cases args;simp_all
 subst d
 obtain⟨a0,len0,cap0,rfl⟩:=okWide_slice Tryz.underlying22 (a 0 22 O rfl rfl)
 obtain⟨z,rfl,rfl,rfl,R⟩:=open_int Tryz.underlying3 (a 1 3 v1 rfl rfl) h1
 obtain⟨A,rfl,rfl,rfl,S⟩:=open_int Tryz.underlying3 (a 2 3 v2 rfl rfl) h2
 obtain⟨B,rfl,rfl,rfl,T⟩:=open_int Tryz.underlying3 (a 3 3 P rfl rfl) Y
 obtain⟨G,len4,cap4,rfl⟩:=okWide_slice Tryz.underlying22 (a 4 22 Q rfl rfl)
 have u:∀x∈K,x.block<W.heap.size:=fun x hx=>c.lt x (by simp[hx])
 have w:∀x∈L,x.block<W.heap.size:=fun x hx=>c.lt x (by simp[hx])
 have k:∀W',Below W.heap.size W W'→Rows.assemblyClosedSpec.post enc Tryz.prog Tryz.f5 false true false false W #[.slice a0 len0 cap0,.int .i64 z,.int .i64 A,.int .i64 B,.slice G len4 cap4] (.bool true) W':=by
  intro W' n
  refine⟨_,_,_,[],K++([]++([]++([]++(L++[])))),[],c,?_,?_,?_,n.frame _,fun h=>by cases h⟩
  ·exact trodAll_mk1 (shut_bool Tryz.underlying4 true)
  ·exact trodAll_cons_mk (Below.trod Tq.laidOut Z0 (dE Z0) h0 n u) (trodAll_cons_mk (shut_int Tryz.underlying3 R) (trodAll_cons_mk (shut_int Tryz.underlying3 S) (trodAll_cons_mk (shut_int Tryz.underlying3 T) (trodAll_cons_mk (Below.trod Tq.laidOut Z0 (dE Z0) I n w) trodAll_mk0))))
  ·rfl
 obtain⟨mo0,M,l0,g0,i0⟩:=zcd 0 h0 (a 0 22 _ rfl rfl) fun blk o hx=>hfz blk o (by simp[hx])
 obtain⟨mo4,N,l4,X,i4⟩:=zcd 1 I (a 4 22 _ rfl rfl) fun blk o hx=>hfz blk o (by simp[hx])
 obtain⟨β,s,U,y,r0,r4,f,F,k0,k4,i,g,l⟩:=start2 g0 X
 have r:DecI noT 5 106419001232542 [S3,.int .i64,.int .i64,.int .i64,S3] .bool fun x=>z5 x.1 x.2.1 x.2.2.1 x.2.2.2.1 x.2.2.2.2:=t5 5 _ rfl (fun _=>rfl)
 obtain⟨v',s',hr,D,_,hv⟩:=r f F (vs:=[M,.int .i64 z,.int .i64 A,.int .i64 B,N]) (x:=(l0,z,A,B,l4)) ⟨M,_,rfl,k0,.int .i64 z,_,rfl,rfl,.int .i64 A,_,rfl,rfl,.int .i64 B,_,rfl,rfl,N,rfl,k4⟩ (z5_true i0 (zfO R) (zfO S) (zfO T) i4) (by rw[i];unfold zw;decide)
 obtain rfl:v'=.bool true:=hv
 refine(zby noT_ok rfl y (args':= #[.slice a0 len0 cap0,.int .i64 z,.int .i64 A,.int .i64 B,.slice G len4 cap4]) (.cons r0 (.cons (.int _ _) (.cons (.int _ _) (.cons (.int _ _) (.cons r4 .nil))))) g l hr).mono fun e W' hp=>?_
 cases e with
 |returned x=>obtain⟨rfl,n⟩:=hp;exact⟨_,rfl,k W' n⟩
 |_=>exact hp.elim
theorem zaT:Tryz.prog.funcNamed Rows.assemblyClosedRow.func=some 5:=by kernel_rfl
set_option maxRecDepth 100000 in
theorem Wh:joinedFacts Tryz.prog 5 Tryz.f5 Rows.assemblyClosedSpec Rows.assemblyClosedRow=true:=(qb (qb (qb (qb (qb (qb (qb (qb (qb (qb (qb (qb (qb (qb (qb (qb (qb (qb (qb (qb (qb (qb (qb (qb (qb (qb (qb (qb (qb (qb (qb checks_k0 checks_k1) checks_k2) checks_k3) checks_k4) checks_k5) checks_k6) checks_k7) checks_k8) checks_k9) zfG) zfF) zfE) zfD) zfC) zfB) zfA) zfz) zfy) zfx) zfw) zfv) zfu) zft) zfs) zfr) zfq) zfp) zfo) zfn) zfm) zfl)
theorem zdd:Tryz.f5.isInstance Tryz.prog Rows.assemblyClosedRow.origin Rows.assemblyClosedRow.targs:=dE Z0
theorem zdc:Tryz.f5.isWrapper Tryz.prog Rows.assemblyClosedRow.wrapper Rows.assemblyClosedRow.mainSum:=by
 unfold Func.isWrapper
 first|(rw[aF (by decide +kernel)];kernel_rfl)|(rw[aD (by decide +kernel)];exact⟨rfl,rfl⟩)
set_option maxRecDepth 100000 in
theorem assemblyClosed_holds:Rows.AssemblyClosedSaid:=
 OpenClaim.holds_of_wide 5 Tryz.f5 rfl rfl rfl rfl rfl rfl rfl ⟨rfl,rfl,rfl,rfl,rfl⟩ rfl rfl rfl rfl rfl zaT Tryz.func5 Wh
  zdd zdc (fun os started H enc _=>zeA os started H enc)
end Go.Proofs.YtocnbjjmmgolfaaGreat
