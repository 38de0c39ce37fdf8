/- AssemblyChecks: THE STATEMENT, PROVED: for every input the law returns true, and its arguments yY as they did. -/
import Derived.Test.YtocnbjjmmgolfaaGreatA44
import Derived.Test.YtocnbjjmmgolfaaGreatA46
import Derived.Test.YtocnbjjmmgolfaaGreatA45
import Derived.Test.YtocnbjjmmgolfaaGreatA47
import Derived.OpenShut
import Derived.Handed
namespace Go.Proofs.YtocnbjjmmgolfaaGreat
open Go Go.M Go.ChangeShapes Go.WideShapes Go.ChangeAt Go.RowKit
theorem Tq.own:ownKnob Tryz.prog.godebug=none:=by kernel_rfl
theorem Tq.laidOut:laidOutB Tryz.prog=true:=by kernel_rfl
theorem Tq.cells3:Tryz.prog.cellsOf 3=1:=by kernel_rfl
theorem wf_in{z:Int}(h:(Lit.int .i64 z).wf=true):xG z:=by
 simp[Lit.wf,IntKind.min,IntKind.max,IntKind.signed,IntKind.bits]at h
 unfold xG
 omega
set_option maxRecDepth 10000 in
theorem open_arg{H:Type}{enc:TypeId×Value→H}{W:World}{base:Nat}{a0:Option Addr}{len cap:Nat}{d:DataW H}{p:List MemPlace}(b:Nat)
  (h:DataW.Trod enc Tryz.prog W 0 (fun _=>true) true 22 (.slice a0 len cap) d p) (hok:Value.okWide Tryz.prog W .any base 22 (.slice a0 len cap))
  (hfz:∀blk o,MemPlace.cell blk o∈p→W.frozen? ⟨blk,o,none⟩=false):∃mo v l,ArgOK W b mo v (.slice a0 len cap) l∧L64 l:=by
 obtain⟨fuel,hf⟩:=h
 rcases open_ints Tryz.underlying22 Tryz.underlying3 Tq.cells3 hf with⟨hcs,hx⟩|⟨a,len',cap',zs,hcs,_,hle,hm,hz,hx,hcell,hwz⟩
 ·simp[Value.cells]at hcs
  obtain⟨rfl,rfl,rfl⟩:=hcs
  exact⟨_,_,_,arg_nil W b,fun x hx=>by simp at hx⟩
 ·simp[Value.cells]at hcs
  obtain⟨rfl,rfl,rfl⟩:=hcs
  simp only[if_true]at hz
  simp only[Prod.mk.injEq]at hx
  simp only[Value.okWide,Tryz.underlying22,Cell.okWide,Cell.ok]at hok
  obtain⟨_,_,hhas⟩:=hok
  obtain⟨_,hspot,row,cells,hshape,_⟩:=hhas
  obtain⟨mo,v,ha⟩:=arg_slice hspot hz hle ⟨_,hshape⟩ hcell (fun i hi=>hfz a.block (a.off+i) (by
   rw[hx.2,MemPlace.mem_row]
   exact⟨i,by omega,rfl⟩)) b
  exact⟨mo,v,_,ha,fun x hx2=>wf_in (hwz x (List.mem_of_mem_take hx2))⟩
set_option maxRecDepth 100000 in
theorem checks_lifted(os:Os)(started:os.Started)(H:Type)(enc:TypeId×Value→H) :
  ReturnsInHanded {} Tryz.checked os 4 .any (Rows.assemblyChecksSpec.pre6 enc Tryz.prog Tryz.f4 Rows.assemblyChecksRow.domain false) (Rows.assemblyChecksSpec.post enc Tryz.prog Tryz.f4 false true false false):=by
 refine returnsInHanded_of_change (C:=Tryz.checked) Tq.own started Z0 Tryz.func4
  (ChangeSpec.witness6 (enc:=enc) (C:=Tryz.checked) false ⟨#[],#[.slice none 0 0,.int .i64 0,.int .i64 0,.slice none 0 0],[]⟩ 8 Z0 Z0 Z0 Z0) ?_
 intro W base args ds gs before hval0 hW _ _
 have hval:∀(j:Nat) t v,Tryz.f4.params[j]? = some t→args[j]? = some v→Value.okWide Tryz.prog W .any base t v:=hval0
 have hW':=hW
 obtain⟨p,q,hA0,hV,rfl,hfz,_⟩:=hW
 have hA:DataW.TrodAll enc Tryz.prog W 0 (fun _=>true) true Tryz.f4.params.toList args.toList ds p:=hA0
 rw[Tryz.params4]at hA hval
 obtain⟨v0,vs0,d0,ds0,p0,q0,ha0,rfl,rfl,h0,hA⟩:=trodAll_cons hA
 obtain⟨v1,vs1,d1,ds1,p1,q1,rfl,rfl,rfl,h1,hA⟩:=trodAll_cons hA
 obtain⟨v2,vs2,d2,ds2,p2,q2,rfl,rfl,rfl,h2,hA⟩:=trodAll_cons hA
 obtain⟨v3,vs3,d3,ds3,p3,q3,rfl,rfl,rfl,h3,hA⟩:=trodAll_cons hA
 obtain⟨rfl,rfl,rfl⟩:=trodAll_nil hA
 obtain⟨rfl,rfl⟩:=trodVars_none hV
 have hargs:args = #[v0,v1,v2,v3]:=by cases args;simp_all
 subst hargs
 obtain⟨a0,len0,cap0,rfl⟩:=okWide_slice Tryz.underlying22 (hval 0 22 v0 rfl rfl)
 obtain⟨n1,rfl,rfl,rfl,w1⟩:=open_int Tryz.underlying3 (hval 1 3 v1 rfl rfl) h1
 obtain⟨n2,rfl,rfl,rfl,w2⟩:=open_int Tryz.underlying3 (hval 2 3 v2 rfl rfl) h2
 obtain⟨a3,len3,cap3,rfl⟩:=okWide_slice Tryz.underlying22 (hval 3 22 v3 rfl rfl)
 have hlt0:∀x∈p0,x.block<W.heap.size:=fun x hx=>hW'.lt x (by simp[hx])
 have hlt3:∀x∈p3,x.block<W.heap.size:=fun x hx=>hW'.lt x (by simp[hx])
 have hpost:∀W',Below W.heap.size W W'→Rows.assemblyChecksSpec.post enc Tryz.prog Tryz.f4 false true false false W #[.slice a0 len0 cap0,.int .i64 n1,.int .i64 n2,.slice a3 len3 cap3] (.bool true) W':=by
  intro W' hB
  refine⟨_,_,_,[],p0++([]++([]++(p3++[]))),[],hW',?_,?_,?_,hB.frame _,fun h=>by cases h⟩
  ·exact trodAll_mk1 (shut_bool Tryz.underlying4 true)
  ·exact trodAll_cons_mk (Below.trod Tq.laidOut Z0 (of_decide_eq_true Z0) h0 hB hlt0) (trodAll_cons_mk (shut_int Tryz.underlying3 w1) (trodAll_cons_mk (shut_int Tryz.underlying3 w2) (trodAll_cons_mk (Below.trod Tq.laidOut Z0 (of_decide_eq_true Z0) h3 hB hlt3) trodAll_mk0)))
  ·rfl
 obtain⟨mo0,u0,l0,g0,i0⟩:=open_arg 0 h0 (hval 0 22 _ rfl rfl) fun blk o hx=>hfz blk o (by simp[hx])
 obtain⟨mo3,u3,l3,g3,i3⟩:=open_arg 1 h3 (hval 3 22 _ rfl rfl) fun blk o hx=>hfz blk o (by simp[hx])
 obtain⟨β,s,U,hrel,r0,r3,hfine,hkn,k0,k3,hnext,hfree,hshut⟩:=start2 g0 g3
 have hdec:DecI lawT 4 1318028195002 [S3,.int .i64,.int .i64,S3] .bool fun x=>z4 x.1 x.2.1 x.2.2.1 x.2.2.2:=t4 lawT_plain lawT_dec 4 _ rfl
 obtain⟨v',s',hr,D,_,hv⟩:=hdec hfine hkn (vs:=[u0,.int .i64 n1,.int .i64 n2,u3]) (x:=(l0,n1,n2,l3)) ⟨u0,_,rfl,k0,.int .i64 n1,_,rfl,rfl,.int .i64 n2,_,rfl,rfl,u3,rfl,k3⟩ (z4_true i0 i3 (wf_in w1) (wf_in w2)) (by rw[hnext];unfold z3;decide)
 obtain rfl:v'=.bool true:=hv
 refine(start_calls lawT_ok rfl hrel (args':= #[.slice a0 len0 cap0,.int .i64 n1,.int .i64 n2,.slice a3 len3 cap3]) (.cons r0 (.cons (.int _ _) (.cons (.int _ _) (.cons r3 .nil)))) hfree hshut hr).mono fun e W' hp=>?_
 cases e with
 |returned x=>obtain⟨rfl,hB⟩:=hp;exact⟨_,rfl,hpost W' hB⟩
 |_=>exact hp.elim
theorem checks_named:Tryz.prog.funcNamed Rows.assemblyChecksRow.func=some 4:=by kernel_rfl
set_option maxRecDepth 100000 in
theorem checks_closed:joinedFacts Tryz.prog 4 Tryz.f4 Rows.assemblyChecksSpec Rows.assemblyChecksRow=true:=(yS (yS (yS (yS (yS (yS (yS (yS (yS (yS (yS (yS (yS (yS (yS (yS (yS (yS (yS (yS (yS (yS (yS (yS (yS (yS (yS (yS (yS (yS (yS checks_k0 checks_k1) checks_k2) checks_k3) checks_k4) checks_k5) checks_k6) checks_k7) checks_k8) checks_k9) checks_k10) checks_k11) checks_k12) checks_k13) checks_k14) checks_k15) checks_k16) checks_k17) checks_k18) checks_k19) checks_k20) checks_k21) checks_k22) checks_k23) checks_k24) checks_k25) checks_k26) checks_k27) checks_k28) checks_k29) checks_k30) checks_k31)
theorem checks_inst:Tryz.f4.isInstance Tryz.prog Rows.assemblyChecksRow.origin Rows.assemblyChecksRow.targs:=of_decide_eq_true Z0
theorem checks_wrap:Tryz.f4.isWrapper Tryz.prog Rows.assemblyChecksRow.wrapper Rows.assemblyChecksRow.mainSum:=by
 unfold Func.isWrapper
 first|(rw[if_pos (by decide +kernel)];kernel_rfl)|(rw[if_neg (by decide +kernel)];exact⟨rfl,rfl⟩)
set_option maxRecDepth 100000 in
theorem assemblyChecks_holds:Rows.AssemblyChecksSaid:=
 OpenClaim.holds_of_wide 4 Tryz.f4 rfl rfl rfl rfl rfl rfl rfl ⟨rfl,rfl,rfl,rfl,rfl⟩ rfl rfl rfl rfl rfl checks_named Tryz.func4 checks_closed
  checks_inst checks_wrap (fun os started H enc _=>checks_lifted os started H enc)
end Go.Proofs.YtocnbjjmmgolfaaGreat
