/- AssemblyTurns: THE STATEMENT, PROVED: for every input the law returns true, and its arguments read as they did. -/
import Derived.Test.YtocnbjjmmgolfaaGreatA41
import Derived.Test.YtocnbjjmmgolfaaGreatA42
import Derived.Test.YtocnbjjmmgolfaaGreatA43
import Derived.OpenShut
import Derived.Handed
namespace Go.Proofs.YtocnbjjmmgolfaaGreat
open Go Go.M Go.ChangeShapes Go.WideShapes Go.ChangeAt Go.RowKit
theorem Tq.own:ownKnob Tryz.prog.godebug=none:=by kernel_rfl
theorem Tq.laidOut:laidOutB Tryz.prog=true:=by kernel_rfl
theorem Tq.cells3:Tryz.prog.cellsOf 3=1:=by kernel_rfl
theorem wf_in{z:Int}(h:(Lit.int .i64 z).wf=true):qp z:=by
 simp[Lit.wf,IntKind.min,IntKind.max,IntKind.signed,IntKind.bits]at h
 unfold qp
 omega
set_option maxRecDepth 100000 in
theorem turns_lifted(os:Os)(started:os.Started)(H:Type)(enc:TypeId×Value→H) :
  ReturnsInHanded {} Tryz.checked os 3 .any (Rows.assemblyTurnsSpec.pre6 enc Tryz.prog Tryz.f3 Rows.assemblyTurnsRow.domain false) (Rows.assemblyTurnsSpec.post enc Tryz.prog Tryz.f3 false true false false):=by
 refine returnsInHanded_of_change (C:=Tryz.checked) Tq.own started (by kernel_rfl) Tryz.func3
  (ChangeSpec.witness6 (enc:=enc) (C:=Tryz.checked) false ⟨#[],#[.int .i64 0,.slice none 0 0,.int .i64 0,.int .i64 0,.int .i64 0],[]⟩ 8 (by kernel_rfl) (by kernel_rfl) (by kernel_rfl) (by kernel_rfl)) ?_
 intro W base args ds gs before hval0 hW _ _
 have hval:∀(j:Nat) t v,Tryz.f3.params[j]? = some t→args[j]? = some v→Value.okWide Tryz.prog W .any base t v:=hval0
 have hW':=hW
 obtain⟨p,q,hA0,hV,rfl,hfz,_⟩:=hW
 have hA:DataW.TrodAll enc Tryz.prog W 0 (fun _=>true) true Tryz.f3.params.toList args.toList ds p:=hA0
 rw[Tryz.params3]at hA hval
 obtain⟨v0,vs0,d0,ds0,p0,q0,ha0,rfl,rfl,h0,hA⟩:=trodAll_cons hA
 obtain⟨v1,vs1,d1,ds1,p1,q1,rfl,rfl,rfl,h1,hA⟩:=trodAll_cons hA
 obtain⟨v2,vs2,d2,ds2,p2,q2,rfl,rfl,rfl,h2,hA⟩:=trodAll_cons hA
 obtain⟨v3,vs3,d3,ds3,p3,q3,rfl,rfl,rfl,h3,hA⟩:=trodAll_cons hA
 obtain⟨v4,vs4,d4,ds4,p4,q4,rfl,rfl,rfl,h4,hA⟩:=trodAll_cons hA
 obtain⟨rfl,rfl,rfl⟩:=trodAll_nil hA
 obtain⟨rfl,rfl⟩:=trodVars_none hV
 have hargs:args = #[v0,v1,v2,v3,v4]:=by cases args;simp_all
 subst hargs
 obtain⟨n0,rfl,rfl,rfl,w0⟩:=open_int Tryz.underlying3 (hval 0 3 v0 rfl rfl) h0
 obtain⟨a0,len,cap,rfl⟩:=okWide_slice Tryz.underlying22 (hval 1 22 v1 rfl rfl)
 obtain⟨n1,rfl,rfl,rfl,w1⟩:=open_int Tryz.underlying3 (hval 2 3 v2 rfl rfl) h2
 obtain⟨n2,rfl,rfl,rfl,w2⟩:=open_int Tryz.underlying3 (hval 3 3 v3 rfl rfl) h3
 obtain⟨n3,rfl,rfl,rfl,w3⟩:=open_int Tryz.underlying3 (hval 4 3 v4 rfl rfl) h4
 have hlt:∀x∈p1,x.block<W.heap.size:=fun x hx=>hW'.lt x (by simp[hx])
 have hpost:∀W',Below W.heap.size W W'→Rows.assemblyTurnsSpec.post enc Tryz.prog Tryz.f3 false true false false W #[.int .i64 n0,.slice a0 len cap,.int .i64 n1,.int .i64 n2,.int .i64 n3] (.bool true) W':=by
  intro W' hB
  refine⟨_,_,_,[],[]++(p1++([]++([]++([]++[])))),[],hW',?_,?_,?_,hB.frame _,fun h=>by cases h⟩
  ·exact trodAll_mk1 (shut_bool Tryz.underlying4 true)
  ·exact trodAll_cons_mk (shut_int Tryz.underlying3 w0) (trodAll_cons_mk (Below.trod Tq.laidOut (by kernel_rfl) (of_decide_eq_true (by kernel_rfl)) h1 hB hlt) (trodAll_cons_mk (shut_int Tryz.underlying3 w1) (trodAll_cons_mk (shut_int Tryz.underlying3 w2) (trodAll_cons_mk (shut_int Tryz.underlying3 w3) trodAll_mk0))))
  ·rfl
 have close:∀l,(∃β s u,Given β s W u (.slice a0 len cap) l)→(∀x∈l,qp x)→Calls Tryz.checked.prog 3 #[.int .i64 n0,.slice a0 len cap,.int .i64 n1,.int .i64 n2,.int .i64 n3] W fun e W'=>∃v,e=.returned v∧Rows.assemblyTurnsSpec.post enc Tryz.checked.prog Tryz.f3 false true false false W #[.int .i64 n0,.slice a0 len cap,.int .i64 n1,.int .i64 n2,.int .i64 n3] v W':=by
  intro l hg hin
  obtain⟨β,s,u,g⟩:=hg
  obtain⟨v',s',hr,rfl,_⟩:=assemblyTurns_ok lawT_plain g.fine (K:=fun _ _=>False) ⟨fun _ _ h=>h.elim,fun _ _ _ _ _ h=>h.elim⟩ lawT_lives g.sl hin (wf_in w0) (wf_in w1) (wf_in w2) (wf_in w3) (by have:=g.next;unfold yC;omega)
  refine(given_calls lawT_ok rfl g hr).mono fun e W' hp=>?_
  cases e with
  |returned x=>obtain⟨rfl,hB⟩:=hp;exact⟨_,rfl,hpost W' hB⟩
  |_=>exact hp.elim
 have hok:=hval 1 22 _ rfl rfl
 obtain⟨fuel,hf⟩:=h1
 rcases open_ints Tryz.underlying22 Tryz.underlying3 Tq.cells3 hf with⟨hcs,hx⟩|⟨a,len',cap',zs,hcs,_,hle,hm,hz,hx,hcell,hwz⟩
 ·simp[Value.cells]at hcs
  obtain⟨rfl,rfl,rfl⟩:=hcs
  exact close [] (given_nil W) (fun x hx=>by simp at hx)
 ·simp[Value.cells]at hcs
  obtain⟨rfl,rfl,rfl⟩:=hcs
  simp only[if_true]at hz
  simp only[Prod.mk.injEq]at hx
  simp only[Value.okWide,Tryz.underlying22,Cell.okWide,Cell.ok]at hok
  obtain⟨_,_,hhas⟩:=hok
  obtain⟨_,hspot,row,cells,hshape,_⟩:=hhas
  refine close (zs.take len) (given_slice hspot hz hle ⟨_,hshape⟩ hcell fun i hi=>?_) (fun x hx2=>wf_in (hwz x (List.mem_of_mem_take hx2)))
  refine hfz a.block (a.off+i) ?_
  rw[hx.2]
  simp only[List.mem_append,MemPlace.mem_row,List.nil_append]
  exact .inl (.inl ⟨i,by omega,rfl⟩)
theorem turns_named:Tryz.prog.funcNamed Rows.assemblyTurnsRow.func=some 3:=by kernel_rfl
set_option maxRecDepth 100000 in
theorem turns_closed:joinedFacts Tryz.prog 3 Tryz.f3 Rows.assemblyTurnsSpec Rows.assemblyTurnsRow=true:=(kP (kP (kP (kP (kP (kP (kP (kP (kP (kP (kP (kP (kP (kP (kP (kP (kP (kP (kP (kP (kP (kP (kP (kP (kP (kP (kP (kP (kP (kP (kP turns_k0 turns_k1) turns_k2) turns_k3) turns_k4) turns_k5) turns_k6) turns_k7) turns_k8) turns_k9) turns_k10) turns_k11) turns_k12) turns_k13) turns_k14) turns_k15) turns_k16) turns_k17) turns_k18) turns_k19) turns_k20) turns_k21) turns_k22) turns_k23) turns_k24) turns_k25) turns_k26) turns_k27) turns_k28) turns_k29) turns_k30) turns_k31)
theorem turns_inst:Tryz.f3.isInstance Tryz.prog Rows.assemblyTurnsRow.origin Rows.assemblyTurnsRow.targs:=of_decide_eq_true (by kernel_rfl)
theorem turns_wrap:Tryz.f3.isWrapper Tryz.prog Rows.assemblyTurnsRow.wrapper Rows.assemblyTurnsRow.mainSum:=by
 unfold Func.isWrapper
 first|(rw[if_pos (by decide +kernel)];kernel_rfl)|(rw[if_neg (by decide +kernel)];exact⟨rfl,rfl⟩)
set_option maxRecDepth 100000 in
theorem assemblyTurns_holds:Rows.AssemblyTurnsSaid:=
 OpenClaim.holds_of_wide 3 Tryz.f3 rfl rfl rfl rfl rfl rfl rfl ⟨rfl,rfl,rfl,rfl,rfl⟩ rfl rfl rfl rfl rfl turns_named Tryz.func3 turns_closed
  turns_inst turns_wrap (fun os started H enc _=>turns_lifted os started H enc)
end Go.Proofs.YtocnbjjmmgolfaaGreat
