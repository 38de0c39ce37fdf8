/- The program: the lexicographically first path (bounds.system.first), for lengths below 0. -/
import Derived.Test.YtocnbjjmmgolfaaGreatA29
set_option linter.unusedSimpArgs false
set_option linter.unusedVariables false
set_option linter.unusedSectionVars false
namespace Go.Proofs.YtocnbjjmmgolfaaGreat
open Go Go.M Go.Proofs.C14
theorem bf34:VJ Tryz.prog 34=some ([.bool false,.slice none 0 0,.bool false,.slice none 0 0],[(0,2),(2,2)]):=by kernel_rfl
theorem el118:wF Tryz.prog 118=some (true,0,6):=by kernel_rfl
theorem fb212:vG Tryz.f212 (Tryz.f212.body.getD .skip) 5=true:=by kernel_rfl
theorem fc246:xH Tryz.prog 246=true:=by kernel_rfl
theorem fc30:xH Tryz.prog 30=true:=by kernel_rfl
theorem of164_1:ZI Tryz.prog 164 1=some 1:=by kernel_rfl
theorem of164_2:ZI Tryz.prog 164 2=some 2:=by kernel_rfl
theorem zac:ZI Tryz.prog 166 1=some 1:=by kernel_rfl
theorem sh118:zV Tryz.prog 118=some (none):=by kernel_rfl
theorem sh34:zV Tryz.prog 34=some (some 4):=by kernel_rfl
theorem sz34:qZ Tryz.prog 34=some 4:=by kernel_rfl
theorem zf3:jn Tryz.prog 3=some [.int .i64 0]:=by kernel_rfl
theorem zf34:jn Tryz.prog 34=some [.bool false,.slice none 0 0,.bool false,.slice none 0 0]:=by kernel_rfl
theorem zL_ok{I:zU}(C:zH I){Γ:TypeId→Option Ty}{T:FuncId→Option Con}{Hs:FuncId→List Hi}(F:Qz I T){rs:List Nat}{g:FuncId}{k:IntKind}{s:St}(hf:Fine s){W:Wd}(J:Knw s W){objs:List Ob}{bs:List Nat}{cs:List MObj}{ps:List Pv}{vs:List Value}{r:Int}
 (hlen:objs.length=bs.length) (E:cs.length=bs.length) (hl:∀(i:Nat) b o,bs[i]? = some b→cs[i]? = some o→s.get b=some o∧b<s.next) (hn:bs.Nodup)
 (m:∀(i:Nat) x b o,objs[i]? = some x→bs[i]? = some b→cs[i]? = some o→ObjR (W.x []) (bs.map fun b=>(undef,b)) x (undef,b) (some o)) (t:PsR (W.x []) (bs.map fun b=>(undef,b)) ps vs) (hg:Nat.ble zu g=false)
 (M:zcI Γ T Hs rs g [] objs.length ps objs (fun p _=>KA (.int k) p)=some r) (hroom:s.next+hdN rs≤zw):zdF W I g ⟨vs⟩ s (hdN rs) (.int k) r:=by
 have f:∀{i:Nat} {q:Value×Nat},(bs.map fun b=>((undef:Value),b))[i]? = some q→bs[i]? = some q.2∧q=(undef,q.2):=fun{i q} h=>by
  rw[List.getElem?_map]at h
  obtain⟨b,hb,rfl⟩:=Option.map_eq_some_iff.mp h
  exact⟨hb,rfl⟩
 have u:∀{i:Nat} {o:Option MObj},(cs.map some)[i]? = some o→∃c,o=some c∧cs[i]? = some c:=fun{i o} h=>by
  rw[List.getElem?_map]at h
  obtain⟨c,hc,rfl⟩:=Option.map_eq_some_iff.mp h
  exact⟨c,rfl,hc⟩
 have G:GX (bs.map fun b=>((undef:Value),b)) W s s ⟨[],[],objs.length,objs.length⟩ [] ⟨[],objs⟩ (fun _=>undef) 0 (bs.map fun b=>((undef:Value),b)) (cs.map some) [] []:=
  {K:=J,H:=hf.hl,oq:=by simp[E],len:=by simp[hlen],cn:=by simp[hlen],ln:=aO _,pre:=(fun i h=>rfl),fro:=List.nil_subset _
   own:=fun i q o h1 h2 a=>by
    have:=(aM.mp h1).1
    rw[bI]at this
    have a:objs.length≤i:=a
    omega
   lent:=fun i q o h1 h2 a=>by
    obtain⟨c,hc,d⟩:=u h2
    cases hc
    exact hl i _ _ (f h1).1 d
   inj:=fun i j q r o o' h1 h2 a w d=>by
    have g1:=(f h1).1
    have g2:=(f h2).1
    rw[d]at g1
    exact(List.getElem?_inj (aM.mp g1).1 hn).mp (g1.trans g2.symm)
   dis:=fun i q o p h1 h2 a w=>nomatch w
   obj:=fun i x q o h1 h2 a=>by
    obtain⟨c,hc,d⟩:=u a
    obtain⟨A,B⟩:=f h2
    rw[B,hc]
    exact m i x _ _ h1 A d
   cob:=fun i b q o h1 h2=>nomatch h2
   slots:=fun _ h=>nomatch h
   cslots:=fun _ h=>nomatch h
   stk:=fun _ h=>nomatch h}
 obtain⟨v,s',y,h⟩:=zeK (Γ:=Γ) (Hs:=Hs) C F rs W s M G rfl t Oz (Post:=fun v s'=>∃D,HL [] s s' D (hdN rs)∧RepV (W.x D) (.int k) v r) (fun p v o s' m' Q' O' z Φ' hm G' hp e=>⟨z,G'.H.up Oz,(Yz hp e).mono (vF G'.fro)⟩)
 rw[jx hg]at y
 exact⟨v,s',y,h⟩
section
variable{W:List Nat}{s0 s:St}{n:Nat}{L:Hp'}{p0 p1 p2 p3 p4 p5:Nat×MObj}
theorem own0n(H:HL W s0 s (p0::L) n):p0.1<s.next:=(H.own p0 Y8).2.1
theorem own1n(H:HL W s0 s (p0::p1::L) n):p1.1<s.next:=(H.own p1 Y8).2.1
theorem own2n(H:HL W s0 s (p0::p1::p2::L) n):p2.1<s.next:=(H.own p2 Y8).2.1
theorem own3n(H:HL W s0 s (p0::p1::p2::p3::L) n):p3.1<s.next:=(H.own p3 Y8).2.1
theorem own4n(H:HL W s0 s (p0::p1::p2::p3::p4::L) n):p4.1<s.next:=(H.own p4 Y8).2.1
theorem own5n(H:HL W s0 s (p0::p1::p2::p3::p4::p5::L) n):p5.1<s.next:=(H.own p5 Y8).2.1
end
abbrev Bd':=Int×Int×Rat
abbrev Ln:=Bool×Rat
section
variable{s:St}{U:Wd}{b0 b1 b2 b3 b4:Nat}{tv lv:Value}{cs:List Value}{l:List Bd'}{tb:List (List Ln)}{rest at_:Int}{sum:Rat}{r:Int}
theorem fst_ok{I:zU}(h:zH I)(hf:Fine s)(q:Knw s U)(h0:s.get b0=some (.cells [tv] 224))(h1:s.get b1=some (.cells [.int .i64 rest] 3))(h2:s.get b2=some (.cells [.int .i64 at_] 3))(m:s.get b3=some (.cells [.func (.func 213) #[] #[]] 151))(p:s.get b4=some (.cells cs 34))
 (v:b0<s.next) (w:b1<s.next) (l2:b2<s.next) (y:b3<s.next) (z:b4<s.next) (hd:[b0,b1,b2,b3,b4].Nodup) (hv:Rep U jl [lv] l) (t:Rep U Wo [tv] tb) (hs:Rep U .rat cs sum) (u:zFst l tb rest at_ sum=some r) (a:s.next+51585≤zw) :
 zdF U I 246 #[lv,.func (.func 253) #[] #[.pointer (some ⟨b0,0,none⟩),.pointer (some ⟨b1,0,none⟩),.pointer (some ⟨b2,0,none⟩),.pointer (some ⟨b3,0,none⟩),.pointer (some ⟨b4,0,none⟩)]] s 51585 (.int .i64) r:=by
 have e:=Rep.mono (τ:=jl) (xP (D:=[])) hv
 have d:=Rep.mono (τ:=Wo) (xP (D:=[])) t
 have c:=Rep.mono (τ:=.rat) (xP (D:=[])) hs
 have j:hdN [51585,806,4]=51585:=rfl
 rw[←j]at a ⊢
 have f:=(fst_eq l tb rest at_ sum).trans u
 refine zL_ok h (t205.i h) hf q (Γ:=Γ2) (Hs:=hFst) (g:=246) (k:=.i64) (objs:=[.cells [.sl 226 1 jN tb],.cells [.int .i64 rest],.cells [.int .i64 at_],.cells [.fn 213],.cells [.rat sum]]) (ps:=[.one (.sl 164 6 Qy l),.clo 253 [.ptr 0 0,.ptr 1 0,.ptr 2 0,.ptr 3 0,.ptr 4 0]]) (rs:=[51585,806,4]) (bs:=[b0,b1,b2,b3,b4]) (cs:=[.cells [tv] 224,.cells [.int .i64 rest] 3,.cells [.int .i64 at_] 3,.cells [.func (.func 213) #[] #[]] 151,.cells cs 34]) rfl rfl ?_ hd ?_ ?_ Uz f a
 ·intro i b o hb ho
  match i,hb,ho with
  |0,hb,ho=>cases hb;cases ho;exact⟨h0,v⟩
  |1,hb,ho=>cases hb;cases ho;exact⟨h1,w⟩
  |2,hb,ho=>cases hb;cases ho;exact⟨h2,l2⟩
  |3,hb,ho=>cases hb;cases ho;exact⟨m,y⟩
  |4,hb,ho=>cases hb;cases ho;exact⟨p,z⟩
  |i+5,hb,ho=>cases hb
 ·intro i x b o hx hb ho
  match i,hx,hb,ho with
  |0,hx,hb,ho=>cases hx;cases hb;cases ho;exact⟨_,_,rfl,LsR.one d⟩
  |1,hx,hb,ho=>cases hx;cases hb;cases ho;exact⟨_,_,rfl,LsR.one rfl⟩
  |2,hx,hb,ho=>cases hx;cases hb;cases ho;exact⟨_,_,rfl,LsR.one rfl⟩
  |3,hx,hb,ho=>cases hx;cases hb;cases ho;exact⟨_,_,rfl,LsR.one rfl⟩
  |4,hx,hb,ho=>cases hx;cases hb;cases ho;exact⟨_,_,rfl,LsR.one c⟩
  |i+5,hx,hb,ho=>cases hb
 ·exact⟨_,_,rfl,e,_,_,rfl,⟨_,rfl,_,_,rfl,⟨_,rfl,rfl⟩,_,_,rfl,⟨_,rfl,rfl⟩,_,_,rfl,⟨_,rfl,rfl⟩,_,_,rfl,⟨_,rfl,rfl⟩,_,_,rfl,⟨_,rfl,rfl⟩,rfl⟩,rfl⟩
end
noncomputable def zau(l:List Bd')(tb:List (List Ln)):Nat→Int→Rat→List Int→Option (List Int)
 |0,_,_,out=>some out
 |n+1,at_,sum,out=>(zFst l tb n at_ sum).bind fun x=>if x<0 then some []else(idx l x).bind fun b=>(app out [x]).bind fun out'=>(qJ sum b.2.2).bind fun sum'=>zau l tb n b.2.1 sum' out'
noncomputable def z212(S:Int×List Bd')(tb:List (List Ln))(at_ many:Int):Option (List Int):=if 0≤many∧many≤32 then zau S.2 tb many.toNat at_ 0 []else none
theorem d30:qA 30 400 [.rat,.rat] .rat fun x=>qJ x.1 x.2:=dAddP
theorem bind_some{α β:Type}{x:Option α}{f:α→Option β}{r:β}(h:x.bind f=some r):∃a,x=some a∧f a=some r:=Option.bind_eq_some_iff.mp h
theorem bd_at{s:St}{U:Wd}(e:Knw s U){a:Option Addr}{n cap:Nat}{l:List Bd'}(h:Rep U jl [.slice a n cap] l){i:Int}{x:Bd'}(hi:idx l i=some x) :
 ∃b off c m,a=some ⟨b,off,none⟩∧0≤i∧i<n∧s.get b=some (.cells c 164)∧b<s.next∧zF c (off+i.toNat*6+0)=some (.int .i64 x.1)∧zF c (off+i.toNat*6+1)=some (.int .i64 x.2.1)∧y8 4 (xw (off+i.toNat*6+2) c)=some m∧Rep U .rat m x.2.2:=by
 obtain⟨b,off,rfl,h0,h1⟩:=h.at e hi
 obtain⟨c,C,hg,hb,hc,g⟩:=h.cells e hi
 obtain⟨c1,r1,rfl,e1,f,r2,rfl,e2,d⟩:=g
 obtain rfl:c1=_:=e1
 obtain rfl:f=_:=e2
 have l4:r2.length=4:=Rep.len (τ:=.rat) d
 refine⟨b,off,c,r2,rfl,h0,h1,hg,hb,WM hc rfl,WM hc rfl,J1 hc ?_,d⟩
 rw[y7,yU]
 simp only[bV,cI,fA,List.drop_zero]
 rw[aF Oz,dC Oz]
set_option maxHeartbeats 4000000 in
set_option maxRecDepth 10000 in
theorem first_ok{I:zU}(hI:zH I){s:St}(hf:Fine s){U:Wd}(hK:Knw s U){n:Int}{l:List Bd'}{tb:List (List Ln)}{at_ many:Int}{sv tv:Value}(hS:RepV U uC sv (n,l))(hT:RepV U Wo tv tb){r:List Int}(a:z212 (n,l) tb at_ many=some r)(v:s.next+2000000≤zw) :
 zdF U I 212 #[sv,tv,.int .i64 at_,.int .i64 many,.func (.func 213) #[] #[]] s 2000000 S3 r:=by
 obtain⟨⟨m0,m32⟩,a⟩:(0≤many∧many≤32)∧zau l tb many.toNat at_ 0 []=some r:=by
  unfold z212 at a
  split at a
  ·next h=>exact⟨h,a⟩
  ·cases a
 obtain⟨c0,rfl,c1,c2,rfl,h1,h2⟩:=hS
 obtain rfl:c1=_:=h1
 obtain⟨al,cl,Ll,rfl,hl⟩:=h2
 have hl:Rep U jl [.slice al l.length cl] l:=⟨al,cl,Ll,rfl,hl⟩
 obtain⟨at1,V,Lt,e,ht⟩:=hT
 cases e
 have ht:Rep U Wo [.slice at1 tb.length V] tb:=⟨at1,V,Lt,rfl,ht⟩
 rw[Nat.add_comm]at v
 have H:=hf.hl
 refine qD 5 (hI 212) Tryz.func212 rfl fb212 rfl ?_
 refine zg (QH H rfl Oz (fun T s1 H=>?_))
 refine KO (c:=[.slice at1 tb.length V]) H rfl Oz (fun Z s1 H=>?_)
 refine zgn H rfl Oz (fun b7 s1 H=>?_)
 refine KO (c:=[.func (.func 213) #[] #[]]) H rfl Oz (fun b9 s1 H=>?_)
 refine zO (zb (zg (zO (zb (zg (KN (c:=[.bool false,.slice none 0 0,.bool false,.slice none 0 0]) bf34 rfl (xW H zf34 Oz (fun g s1 H=>?_))))))))
 refine xu (vs:=[.bool false,.slice none 0 0,.bool false,.slice none 0 0]) H sz34 rfl rfl rfl rfl rfl Oz (fun s1 H=>?_)
 refine zb (zL (zg (zf rfl (wa rfl rfl (by unfold yy;omega) (xW H zf3 Oz (fun d s1 H=>?_))))))
 refine xu (vs:=[.int .i64 _]) H sz3 rfl rfl rfl rfl rfl Oz (fun s1 H=>?_)
 refine zb (yj (kP (fun m F s1=>∃(G:FF) (a0:Option Addr) (n0 k0:Nat) (S Φ:Hp') (cs:List Value) (at_:Int) (sum:Rat) (out:List Int) (mm d:Nat),F=lay G [(5,.pointer (some ⟨T,0,none⟩)),(6,.pointer (some ⟨Z,0,none⟩)),(7,.pointer (some ⟨b7,0,none⟩)),(9,.pointer (some ⟨b9,0,none⟩)),(11,.slice a0 n0 k0),(12,.pointer (some ⟨g,0,none⟩)),(13,.pointer (some ⟨d,0,none⟩))]∧HL [] s s1 ((d,.cells [.int .i64 ((m:Int)-1)] 3)::(g,.cells cs 34)::(b9,.cells [.func (.func 213) #[] #[]] 151)::(b7,.cells [.int .i64 at_] 3)::(Z,.cells [.slice at1 tb.length V] 224)::(T,.cells [.int .i64 n,.slice al l.length cl] 166)::(S++Φ)) mm∧mm+m*60000≤1930000∧m≤32∧Rep (U.x Φ) .rat cs sum∧OwnL (U.x Φ) 3 1 (.int .i64) S a0 n0 k0 out∧zau l tb m at_ sum out=some r) ?_ many.toNat _ _ ?_))
 rotate_left
 ·refine⟨_,none,0,0,[],[],_,at_,0,[],6,d,slots ⟨rfl,rfl,rfl,rfl,rfl,rfl,rfl,trivial⟩,?_,by omega,by omega,rat0,.nil rfl,a⟩
  rw[show((many.toNat:Int)-1)=many-1 by omega]
  exact H
 rintro m F s1 ⟨G,a0,n0,k0,S,Φ,cs,at_,sum,out,mm,d,rfl,H,hm,hm32,b,ho,a⟩
 refine zL (zg (yc sh3 rfl H.own0 rfl (op_geq rfl rfl (fun h=>?_) (fun h=>?_))))
 rotate_left
 ·obtain rfl:m=0:=by omega
  cases a
  refine zb (ye rfl (qw (xG (xv (xI (zn (zg (zx rfl (yq rfl (zb (qH ?_)))))))))))
  refine xD (uH ?_)
  exact⟨_,H.up Oz,ho.rep Z8 Z8⟩
 obtain⟨j,rfl⟩:∃j,m=j+1:=⟨m-1,by omega⟩
 rw[zau]at a
 obtain⟨x,hx,a⟩:=bind_some a
 have ej:(((j+1:Nat):Int)-1)=(j:Int):=by omega
 rw[ej]at H
 have hn9:[Z,d,b7,b9,g].Nodup:=by
  have hd:=H.dist
  simp only[List.pairwise_cons,aL,forall_eq_or_imp]at hd
  simp only[List.nodup_cons,aL,cH,or_false,not_or,List.nodup_nil,fB,not_false_eq_true]
  omega
 have hKx:Knw _ (U.x Φ):=hK.x H (D:=Φ) Z8
 refine zb (yN rfl (yo (zn (zL (yj (zg (zy zac rfl (yc sh118 rfl H.own5 rfl (XV (ym rfl fc246 rfl (jK (fst_ok hI H.fine hKx H.own4 H.own0 H.own3 H.own2 H.own1 (own4n H) (own0n H) (own3n H) (own2n H) (own1n H) hn9 (Rep.mono (τ:=jl) xP hl) (Rep.mono (τ:=Wo) xP ht) b hx (H.rm Oz)) (fun v9 s9 D9 Hc w=>?_))))))))))))
 obtain rfl:v9=_:=w
 have H:=H.callE Hc
 have H:=H.sub (List.sublist_append_left _ _)
 clear Hc
 refine z4 rfl (zb (zL (zg (zf rfl (kA rfl rfl (fun z=>?_) (fun z=>?_))))))
 ·rw[aF z]at a
  cases a
  refine zb (yN rfl (zg (zO (zb (qH (qp (vf (qp (gg (vf (qp ?_)))))))))))
  refine xD (uH ?_)
  exact⟨[],(H.sub (List.nil_sublist _)).up Oz,none,0,[],rfl,.inr (.nil 0 rfl rfl),rfl,fun k x h=>nomatch h⟩
 rw[aD z]at a
 obtain⟨⟨f,t,q⟩,hb,a⟩:=bind_some a
 obtain⟨out',R,a⟩:=bind_some a
 obtain⟨sum',o,a⟩:=bind_some a
 dsimp only at o a
 refine zb (ye rfl (yo (zn (zg (zx rfl (zf rfl (xS (c:=[.int _ _]) H uW rfl rfl Oz (fun b30 s10 H=>?_))))))))
 have hgt:=H.own0
 have H:=HL.mid2 (A:=[_,_,_,_,_,_]) (B:=[]) (C:=S) (E:=Φ) H.drop0
 refine Za (X:=[[.int .i64 x]]) H ho R uW Y6 rfl rfl rfl (qG hgt rfl) rfl Uz rfl (fun k y h=>by obtain⟨rfl,rfl⟩:=get1 h;rfl) Uz Oz (fun a5 cap5 b31 c5 s38 H ho=>?_)
 refine yq rfl (zb ?_)
 have H:=(HL.mid (A:=[_]) (B:=[_,_,_,_,_,_]) (C:=Φ) H)
 have H:HL [] s _ (_::_::_::_::_::_::([_]++Φ)) _:=H
 have K:cs.length=4:=Rep.len (τ:=.rat) b
 obtain⟨bb,ob,cb,mb,rfl,J,hb1,N,u,hcf,hct,hcm,P⟩:=bd_at hK hl hb
 have hm4:mb.length=4:=Rep.len (τ:=.rat) P
 refine uv [⟨0,0,.light,[2,6,9,13]⟩,⟨1,0,.light,[0,9,13]⟩,⟨2,2,.light,[0,9,13]⟩,⟨3,0,.light,[0,2,9,13]⟩,⟨4,14,.light,[0,9,13]⟩,⟨5,30,.light,[0,9,13]⟩,⟨6,62,.light,[0,9,13]⟩,⟨8,0,.light,[0,2,6]⟩,⟨9,256,.light,[0,2,6]⟩,⟨10,0,.light,[0,2,6,9]⟩,⟨11,1792,.light,[0,2,6]⟩,⟨12,3840,.light,[0,2,6]⟩,⟨13,7936,.light,[0,2,6]⟩,⟨7,127,.whole,[9,13]⟩,⟨14,255,.whole,[9,13]⟩,⟨15,32767,.whole,[]⟩] Z0 Z0 ?_
 have O:bb<zw:=by omega
 refine k6 rfl rfl sh34 rfl H.own1 (H.lim1 Oz) (xM K) (za rfl rfl (zy zac rfl ⟨rfl,(yL rfl rfl sh118 rfl H.own5 (H.lim5 Oz) rfl (za rfl rfl (zf rfl ⟨rfl,(za rfl rfl (z7 el118 rfl rfl J hb1 ⟨rfl,(za rfl rfl (zy of164_2 rfl ⟨rfl,(k6 rfl rfl sh34 rfl (H.old u N) O hcm (za rfl rfl (zy zac rfl ⟨rfl,(yL rfl rfl sh118 rfl H.own5 (H.lim5 Oz) rfl (za rfl rfl (zf rfl ⟨rfl,(za rfl rfl (z7 el118 rfl rfl J hb1 ⟨rfl,(za rfl rfl (zy of164_1 rfl ⟨rfl,?_⟩))⟩))⟩)))⟩)))⟩))⟩))⟩)))⟩))
 refine yL rfl rfl sh3 rfl (H.old u N) O hct ?_
 have M:∀p∈[T,bb],p≠g:=fun p hp=>by
  have h1:=H.dist
  have h2:=(H.own (g,.cells cs 34) Y8).2.2.2
  simp only[List.pairwise_cons,aL,forall_eq_or_imp]at h1
  simp only[aL,cH,or_false]at hp h2
  rcases hp with rfl|rfl<;>omega
 refine yr rfl rfl (ym rfl fc30 rfl (jK (d30 hI (Fine.pr H.fine (jM (own5n H) (jM (bJ u H.le) zdx))) ((hK.x H (D:=Φ) Z8).heap rfl (aO _)) (x:=(sum,q)) ⟨_,_,rfl,⟨_,rfl,b⟩,_,rfl,_,rfl,Rep.mono (τ:=.rat) xP P⟩ o (H.rm Oz)) (fun v9 s9 D9 Hc w=>?_)))
 have Hc:=HL.wider H.fine (aO _) (fun _ h=>bE _ h) Hc
 obtain⟨Φ,ku,kd,H⟩:=ZM (U:=U) (A:=[_]) [_,_,_,_,_,_] H Hc
 replace ho:=ho.mono ku
 obtain⟨cn,rfl,i⟩:=w
 replace i:=Rep.mono (τ:=.rat) kd i
 have Q:cn.length=4:=Rep.len (τ:=.rat) i
 clear ku kd Hc b
 have H:HL [] s _ (_::_::_::_::_::_::([_]++Φ)) _:=H
 refine Xx (vs:=cn) (fr:=[T,bb]) H rfl rfl sz34 rfl rfl (xq Q) (Rep.plain (τ:=.rat) i) (yQ (by rw[Q,K])) rfl M Oz (fun s6 H=>?_)
 refine dr_store3 (vs:=[.int .i64 t]) (fr:=[]) H rfl rfl sz3 rfl rfl rfl rfl rfl rfl V1 Oz (fun s7 H=>?_)
 refine yV (xc (zn (zL (zg (yc sh3 rfl H.own0 rfl (zb (zQ (xW H zf3 Oz (fun Y s8 H=>?_)))))))))
 refine xu (vs:=[.int .i64 (j:Int)]) H sz3 rfl rfl rfl rfl rfl Oz (fun s9 H=>?_)
 have H:=H.drop1
 refine zb (zn (zQ (yc sh3 rfl H.own0 rfl (wa rfl rfl (by unfold yy;omega) (xu (vs:=[.int .i64 ((j:Int)-1)]) H sz3 rfl rfl rfl rfl rfl Oz (fun s9 H=>?_))))))
 refine zb (yA ?_)
 exact⟨j,by omega,_,_,_,_,[_],Φ,cn,t,sum',out',_,Y,slots ⟨rfl,rfl,rfl,rfl,rfl,rfl,rfl,trivial⟩,H,by omega,by omega,i,ho,a⟩
section
variable{P:Program}{I:zU}{N:Nat}{F:FF}{s s0:St}
theorem cw_scope{b:Code}{Q:FOut→Prop}(h:CodeW P I N b F s Q):CodeW P I N (.scope b) F s Q:=h
theorem cw_label{i:Nat}{Q:FOut→Prop}(h:Q (.normal F s)):CodeW P I N (.label i) F s Q:=⟨.normal F s,h,1,fun m hm=>by obtain⟨m,rfl⟩:∃k,m=k+1:=⟨m-1,by omega⟩;rfl⟩
theorem dw0{ops:List Oper}{ix anc:Nat}{free:List Nat}{o:Oper}{rest:List Drawn}{Q:FF→St→Prop}{W:List Nat}{L:Hp'}{n:Nat}(hg:zF ops ix=some o)(c:yi ops F o=true)(hf:yf ops F free=[])(H:HL W s0 s L n)
 (h:OpW P I o F s fun b s'=>(∃L n,HL W s0 s' L n)∧yZ P I ops rest b s' Q):yZ P I ops (⟨ix,anc,.whole,free⟩::rest) F s Q:=by
 refine yr hg c ?_
 rw[hf]
 refine OpW.mono h fun b s' ⟨⟨L',n',H'⟩,hd⟩=>?_
 have e:({next:=s'.next,bar:=s.bar,prot:=s.prot,heap:=s'.heap}:St)=s':=by
  rw[show s.bar=s'.bar from H.bar.trans H'.bar.symm,show s.prot=s'.prot from H.prot.trans H'.prot.symm]
 rw[e]
 exact hd
end
noncomputable def zel(t w:Nat)(e:Ty)(p:Pv)(o:List Ob):Option (List e.T):=match p with
 | .one (.own j)=>match o[j]? with
  |some (.list t' w' b l)=>if h:t'=t∧w'=w∧b=e then some (wZ h.2.2 l)else none
  |_=>none
 |_=>none
theorem zOwn_ok{I:zU}(C:zH I){Γ:TypeId→Option Ty}{T:FuncId→Option Con}{Hs:FuncId→List Hi}(E:Qz I T){rs:List Nat}{g:FuncId}{ar:List Ty}{t w:Nat}{e:Ty}(L:VX ar=true){s:St}(hf:Fine s){W:Wd}(J:Knw s W){vs:List Value}{x:Tp ar}(hx:VsR W ar vs x){r:List e.T}(hg:Nat.ble zu g=false)
 (M:zcI Γ T Hs rs g [] 0 (toPs ar x) [] (zel t w e)=some r) (hroom:s.next+hdN rs≤zw):∃v s',vo Tryz.prog I g ⟨vs⟩ s v s'∧∃a n cap D R,v=.slice a n cap∧HL [] s s' (D++R) (hdN rs)∧OwnL (W.x R) t w e D a n cap r:=by
 have G:GX [] W s s ⟨[],[],0,0⟩ [] ⟨[],[]⟩ (fun _=>undef) 0 [] [] [] []:=
  {K:=J,H:=hf.hl,oq:=rfl,len:=rfl,cn:=aO _,ln:=aO _,pre:=(fun i h=>by cases h),fro:=List.nil_subset _
   own:=fun i q o h=>by cases h
   lent:=fun i q o h=>by cases h
   inj:=fun i j q r o o' h=>by cases h
   dis:=fun i q o p _ h=>by cases h
   obj:=fun i b q o h=>by cases h
   cob:=fun i b q o h=>by cases h
   slots:=fun _ h=>nomatch h
   cslots:=fun _ h=>nomatch h
   stk:=fun _ h=>nomatch h}
 rw[←jx (Q:=[]) hg]
 refine zeK (Γ:=Γ) (Hs:=Hs) C E rs W s M G rfl (JO L (hx.mono xP)) Oz ?_
 intro p v o s' m' Q' O' z Φ' hm G' hp c
 unfold zel at c
 split at c
 ·next j=>
  split at c
  ·next t' w' e' l ho=>
   split at c
   ·next h=>
    obtain⟨rfl,rfl,rfl⟩:=h
    obtain rfl:=cR c
    obtain⟨q,m,hv,_⟩:=hp
    have u:j<O'.length:=by rw[G'.oq];exact(aM.mp m).1
    obtain⟨ob,f⟩:∃ob,O'[j]? = some ob:=⟨O'[j],aE u⟩
    obtain⟨a,cap,y,_,d⟩:=G'.obj j _ q ob ho m f
    rw[List.cons.injEq]at hv
    refine⟨a,l.length,cap,?_⟩
    rw[hv.1,y]
    cases ob with
    |none=>exact⟨[],z,rfl,G'.H.up Oz,d.mono (vF G'.fro)⟩
    |some ob=>
     obtain⟨A,B,k⟩:=dZ (G'.own j q ob m f (cJ _))
     refine⟨[(q.2,ob)],A++B,rfl,(G'.H.perm (by rw[k];exact List.perm_middle)).up Oz,d.mono (vF fun p hp=>?_)⟩
     have h1:=G'.fro hp
     have h2:=G'.dis j q ob p (cJ _) m f hp
     rw[k]at h1
     rcases aU.mp h1 with h1|h1
     ·exact cE _ h1
     ·rcases aL.mp h1 with h1|h1
      ·rw[h1]at h2;exact absurd rfl h2
      ·exact bE _ h1
   ·cases c
  ·cases c
 ·cases c
theorem ends_eq(x:(Int×List Bd')×Int):zcI Γ2 T137c (hsF []) [3] 210 [] 0 (toPs [uC,.int .i64] x) [] (zel 226 1 jN)=z210 x.1 x.2:=by kernel_rfl
theorem ends_ok{I:zU}(d:zH I){s:St}(hf:Fine s){U:Wd}(e:Knw s U){S:Int×List Bd'}{v:Int}{c:Value}(f:RepV U uC c S){t:List (List Ln)}(g:z210 S v=some t)(b:s.next+3≤zw) :
 ∃w s',vo Tryz.prog I 210 #[c,.int .i64 v] s w s'∧∃a n cap D R,w=.slice a n cap∧HL [] s s' (D++R) 3∧OwnL (U.x R) 226 1 jN D a n cap t:=
 zOwn_ok d (t137.i d) (ar:=[uC,.int .i64]) (rs:=[3]) (Γ:=Γ2) (Hs:=hsF []) rfl hf e (vs:=[c,.int .i64 v]) (x:=(S,v)) ⟨_,_,rfl,f,_,rfl,rfl⟩ Uz ((ends_eq (S,v)).trans g) b
abbrev Tb':=List (List Ln)
structure TbR(U:Wd)(es:List (Hp'×Value))(ts:List Tb'):Prop where
 len:es.length=ts.length
 own:∀v,v<ts.length→∃a n k,(es.getD v E0).2=.slice a n k∧OwnL U 226 1 jN (es.getD v E0).1 a n k (ts.getD v [])
theorem wp{α:Type}{l:List α}{i j:Nat}{x d:α}(h:i<l.length):(l.set i x).getD j d=if j=i then x else l.getD j d:=by
 rw[aC,List.getElem?_set,aC]
 by_cases e:i=j
 ·subst e;simp[h]
 ·rw[aD e,aD (Ne.symm e)]
theorem TbR.mono{U b:Wd}{es:List (Hp'×Value)}{ts:List Tb'}(h:TbR U es ts)(hs:WLe U b):TbR b es ts:=⟨h.len,fun v hv=>by obtain⟨a,n,k,h1,h2⟩:=h.own v hv;exact⟨a,n,k,h1,h2.mono hs⟩⟩
theorem TbR.set{U:Wd}{es:List (Hp'×Value)}{ts:List Tb'}(h:TbR U es ts){v:Nat}(hv:v<ts.length){D:Hp'}{a:Option Addr}{n k:Nat}{t:Tb'}(ho:OwnL U 226 1 jN D a n k t):TbR U (es.set v (D,.slice a n k)) (ts.set v t):=by
 refine⟨by rw[bP,bP];exact h.len,fun u hu=>?_⟩
 rw[bP]at hu
 rw[wp (by rw[h.len];exact hv),wp hv]
 by_cases e:u=v
 ·rw[aF e,aF e];exact⟨a,n,k,rfl,ho⟩
 ·rw[aD e,aD e];exact h.own u hu
theorem repL_rep(n:Nat):kq [Value.slice none 0 0] n=(List.replicate n E0).map Prod.snd:=by
 induction n with
 |zero=>rfl
 |succ n b=>rw[List.replicate_succ,List.map_cons,←b];rfl
theorem TbR.nil{U:Wd}(n:Nat):TbR U (List.replicate n E0) (List.replicate n []):=by
 refine⟨by simp,fun v hv=>?_⟩
 have e:(List.replicate n E0).getD v E0=E0:=by rw[aC,List.getElem?_replicate];split<;>rfl
 have e2:(List.replicate n ([]:Tb')).getD v []=[]:=by rw[aC,List.getElem?_replicate];split<;>rfl
 rw[e,e2]
 exact⟨none,0,0,rfl,.nil rfl⟩
theorem fheap_nil(n:Nat):xC (List.replicate n E0)=[]:=by
 induction n with
 |zero=>rfl
 |succ n b=>rw[List.replicate_succ];exact b
theorem zar{α:Type}{l:List α}{i:Int}{x d:α}(h:idx l i=some x):0≤i∧i.toNat<l.length∧l.getD i.toNat d=x:=by
 obtain⟨h0,h1,h2⟩:=qF h
 refine⟨h0,(aM.mp h2).1,?_⟩
 rw[aC,h2];rfl
theorem own_at{U:Wd}{t w:Nat}{e:Ty}{D:Hp'}{a:Option Addr}{n cap:Nat}{l:List e.T}(h:OwnL U t w e D a n cap l){i:Int}{x:e.T}(hi:idx l i=some x):∃b c C,a=some ⟨b,0,none⟩∧D=[(b,.cells c t)]∧0≤i∧i<n∧y8 w (xw (0+i.toNat*w) c)=some C∧Rep U e C x:=by
 obtain⟨h0,h1,h2⟩:=qF hi
 obtain⟨hn,hw,L,g1,g2,d,f⟩:=h
 generalize hc:L.flatten=c at g2
 cases g2 with
 |nil=>omega
 |block b _ _ _ hl hcap=>
  subst hc
  exact⟨b,_,_,rfl,rfl,h0,by omega,gm d Oz,f _ _ h2⟩
section
variable{W:List Nat}{s0 s:St}{n:Nat}{p0 p1:Nat×MObj}{R B Φ:Hp'}{es:List (Hp'×Value)}{a:Nat}
theorem tb_put{w:Value}(H:HL W s0 s ((p0::p1::(xC es++Φ))++(B++R)) n)(h:a<es.length)(he:es.getD a E0=E0):HL W s0 s (p0::p1::(xC (es.set a (B,w))++(Φ++R))) n:=by
 refine H.perm ?_
 have h1:=vZ h ((B,w):Hp'×Value)
 have h2:es.set a E0=es:=by rw[←he];exact WB h
 rw[h2]at h1
 refine List.Perm.append_left [p0,p1] (List.Perm.trans ?_ (h1.symm.append_right (Φ++R)))
 show((xC es++Φ)++(B++R)).Perm ((B++xC es)++(Φ++R))
 rw[bD,bD]
 exact((dH Φ B R).append_left _).trans (dH _ B _)
theorem fjoinD{v:Value}(H:HL W s0 s (B++(p0::p1::(xC (es.set a E0)++R))) n)(h:a<es.length):HL W s0 s (p0::p1::(xC (es.set a (B,v))++R)) n:=by
 refine H.perm ?_
 have h1:=vZ h ((B,v):Hp'×Value)
 refine(dH B [p0,p1] _).trans (List.Perm.append_left [p0,p1] ?_)
 have h2:=h1.symm.append_right R
 rw[bD]at h2
 exact h2
end
theorem zcN:wF Tryz.prog 223=some (true,0,1):=by kernel_rfl
theorem el224:wF Tryz.prog 224=some (true,0,1):=by kernel_rfl
theorem el226:wF Tryz.prog 226=some (true,0,5):=by kernel_rfl
theorem fb138:vG Tryz.f138 (Tryz.f138.body.getD .skip) 1=true:=by kernel_rfl
theorem fc193:xH Tryz.prog 193=true:=by kernel_rfl
theorem fc205:xH Tryz.prog 205=true:=by kernel_rfl
theorem fc210:xH Tryz.prog 210=true:=by kernel_rfl
theorem fc211:xH Tryz.prog 211=true:=by kernel_rfl
theorem fc212:xH Tryz.prog 212=true:=by kernel_rfl
theorem zad:ZI Tryz.prog 166 0=some 0:=by kernel_rfl
theorem of229_0:ZI Tryz.prog 229 0=some 0:=by kernel_rfl
theorem of229_1:ZI Tryz.prog 229 1=some 1:=by kernel_rfl
theorem sh166:zV Tryz.prog 166=some (some 2):=by kernel_rfl
theorem sh224:zV Tryz.prog 224=some (none):=by kernel_rfl
theorem sh226:zV Tryz.prog 226=some (none):=by kernel_rfl
theorem sh229:zV Tryz.prog 229=some (some 5):=by kernel_rfl
theorem sh4:zV Tryz.prog 4=some (none):=by kernel_rfl
theorem sl223:ql Tryz.prog 223=some (224,1,24,[.slice none 0 0]):=by kernel_rfl
theorem sl224:ql Tryz.prog 224=some (226,1,24,[.slice none 0 0]):=by kernel_rfl
theorem sz224:qZ Tryz.prog 224=some 1:=by kernel_rfl
theorem sz229:qZ Tryz.prog 229=some 5:=by kernel_rfl
theorem un223:Tryz.prog.underlying 223=some (.slice 224):=by kernel_rfl
theorem un224:Tryz.prog.underlying 224=some (.slice 226):=by kernel_rfl
theorem zf229:jn Tryz.prog 229=some [.bool false,.bool false,.slice none 0 0,.bool false,.slice none 0 0]:=by kernel_rfl
section
variable(S:Int×List Bd')
noncomputable def cyA:Nat→Int→List Tb'→Option (List Tb')
 |0,_,ts=>some ts
 |k+1,v,ts=>(z210 S v).bind fun t=>cyA k (v+1) (ts.set v.toNat t)
noncomputable def cyB(many:Int):Nat→Int→List Tb'→Option (List Tb')
 |0,_,ts=>some ts
 |k+1,v,ts=>(idx ts v).bind fun t=>(idx t (many-1)).bind fun w=>(z211 S w).bind fun a=>(app t [a]).bind fun t'=>cyB many k (v+1) (ts.set v.toNat t')
noncomputable def cyC(many:Int):Nat→Int→List Tb'→Option Bool
 |0,_,_=>some false
 |k+1,v,ts=>(idx ts v).bind fun t=>(idx t many).bind fun w=>(idx w v).bind fun e=>if e.1=true then(qP e.2).bind fun r=>if r<0 then some true else cyC many k (v+1) ts else cyC many k (v+1) ts
noncomputable def cyD:Nat→Nat→List Tb'→Option (Nat×List Tb')
 |0,q,ts=>some (q,ts)
 |k+1,q,ts=>(cyB S ((q:Int)+1) S.1.toNat 0 ts).bind fun a=>(cyC ((q:Int)+1) S.1.toNat 0 a).bind fun b=>if b=true then some (q+1,a)else cyD k (q+1) a
noncomputable def cyE(many:Int)(ts:List Tb'):Nat→Int→List Int→Option (List Int)
 |0,_,out=>some out
 |k+1,v,out=>(idx ts v).bind fun t=>(z212 S t v many).bind fun c=>if c.length=0 then cyE many ts k (v+1) out else if out.length=0 then cyE many ts k (v+1) c else(z205 c out).bind fun r=>if r<0 then cyE many ts k (v+1) c else cyE many ts k (v+1) out
noncomputable def zdQ:Option (List Int):=if 0≤S.1∧S.1≤32 then(cyA S S.1.toNat 0 (List.replicate S.1.toNat [])).bind fun ts=>(cyD S S.1.toNat 0 ts).bind fun x=>cyE S x.1 x.2 S.1.toNat 0 []else none
end
theorem d211:qA 211 32387 [uC,jN] jN fun x=>z211 x.1 x.2:=t211 211 _ rfl
theorem d205:qA 205 67 [S3,S3] (.int .i64) fun x=>z205 x.1 x.2:=t205 205 _ rfl
theorem d193:qA 193 3 [.rat] (.int .i64) fun x=>qP x:=dSignP
set_option maxHeartbeats 4000000 in
set_option maxRecDepth 10000 in
theorem cycle_ok:qA 138 200000000 [uC] S3 fun x=>zdQ x:=by
 rintro I hI s hf U hK vs ⟨(n:Int),(l:List Bd')⟩ ⟨sv,rfl,hS⟩ r e hroom
 replace e:zdQ (n,l)=some r:=e
 obtain⟨⟨n0,n32⟩,e⟩:(0≤n∧n≤32)∧_=some r:=by
  unfold zdQ at e
  split at e
  ·next h=>exact⟨h,e⟩
  ·cases e
 obtain⟨ts0,hz0,e⟩:=bind_some e
 obtain⟨⟨m1,ts1⟩,hz1,hz2⟩:=bind_some e
 clear e
 obtain⟨n,rfl⟩:∃k:Nat,n=(k:Int):=⟨n.toNat,by omega⟩
 rw[show(((n:Int),l):Int×List Bd').1.toNat=n from Int.toNat_natCast n]at hz0 hz1 hz2
 obtain⟨c0,rfl,c1,c2,rfl,h1,h2⟩:=hS
 obtain rfl:c1=_:=h1
 obtain⟨al,cl,Ll,rfl,hl⟩:=h2
 have hl:Rep U jl [.slice al l.length cl] l:=⟨al,cl,Ll,rfl,hl⟩
 have hS:∀{W:Wd},WLe U W→RepV W uC (.agg ⟨[.int .i64 (n:Int),.slice al l.length cl]⟩) ((n:Int),l):=fun hw=>⟨_,rfl,[_],[_],rfl,rfl,hl.mono hw⟩
 rw[Nat.add_comm]at hroom
 have H:=hf.hl
 refine qD 1 (hI 138) Tryz.func138 rfl fb138 rfl ?_
 refine zg (QH H rfl Oz (fun M s1 H=>?_))
 refine zO (zb (cw_scope (zg (zy zad rfl (yc sh3 rfl H.own0 rfl (J5 (a:=n) (b:=n) H sl223 rfl rfl (aO _) Oz Oz (fun bt s2 H=>?_)))))))
 rw[repL_rep]at H
 refine yq rfl (zb (zL (zg (zy zad rfl (yc sh3 rfl H.own1 rfl (wB (zb (yj (kP (fun k F s1=>∃(G:FF) (i m:Nat) (es:List (Hp'×Value)) (Φ:Hp') (ts:List Tb'),F=lay G [(1,.pointer (some ⟨M,0,none⟩)),(3,.slice (some ⟨bt,0,none⟩) n (2*n)),(19,.int .i64 (n:Int)),(20,.int .i64 (i:Int))]∧HL [] s s1 ((bt,.cells (es.map Prod.snd) 224)::(M,.cells [.int .i64 (n:Int),.slice al l.length cl] 166)::(xC es++Φ)) m∧m≤2+i*3∧i≤n∧k=n-i∧TbR (U.x Φ) es ts∧ts.length=n∧(∀v,i≤v→es.getD v E0=E0)∧cyA (n,l) (n-i) i ts=some ts0) ?_ n _ _ ?_)))))))))
 rotate_left
 ·refine⟨_,0,2,List.replicate n E0,[],List.replicate n [],slots ⟨rfl,rfl,rfl,rfl,trivial⟩,?_,by omega,by omega,by omega,TbR.nil n,by simp,fun v _=>?_,hz0⟩
  ·rw[fheap_nil];exact H
  ·rw[aC,List.getElem?_replicate];split<;>rfl
 rintro k F s1 ⟨G,i,m,es,Φ,ts,rfl,H,V,hi,rfl,p,u,hE0,e⟩
 refine zg (kA rfl rfl (fun h=>?_) (fun h=>?_))
 ·refine zb (zL (yN rfl (yo (zn (zL (yj (zg (zf rfl (z4 rfl (zb (zQ ?_)))))))))))
  refine zx rfl (zf rfl (qr sh166 rfl H.own1 rfl (zf rfl ?_)))
  rw[show n-i=(n-(i+1))+1 by omega,cyA]at e
  obtain⟨t,ht,e⟩:=bind_some e
  rw[Int.toNat_natCast]at e
  refine ym rfl fc210 rfl ?_
  obtain⟨_,s9,hr,a,n9,cap,D,R,rfl,H',ho⟩:=ends_ok hI H.fine (hK.x H (D:=Φ) Z8) (hS xP) ht (H.rm Oz)
  refine⟨_,_,hr,?_⟩
  clear hr
  have hie:i<es.length:=by rw[p.len];omega
  have H:=tb_put (w:=.slice a n9 cap) (H.callE H') hie (hE0 i (aO _))
  refine z7 zcN rfl rfl Oz Oz (xu (vs:=[.slice a n9 cap]) H sz224 rfl rfl rfl rfl (c':=(es.set i (D,.slice a n9 cap)).map Prod.snd) (by rw[Int.toNat_natCast,cG,cA];exact uo (vl:=undef) hie) Oz (fun s8 H=>?_))
  refine zb (xc (zn (zQ (xX rfl rfl (by unfold yy;omega) (zf rfl (zb (yA (⟨n-(i+1),by omega,_,i+1,_,_,Φ++R,ts.set i t,slots ⟨rfl,rfl,rfl,rfl,trivial⟩,H,by omega,by omega,rfl,?_,by rw[bP];exact u,fun v hv=>?_,e⟩))))))))
  ·exact(p.mono (vF (List.subset_append_left _ _))).set Oz (ho.mono (uT (List.subset_append_left _ _) (dJ _ _)))
  ·rw[wp hie,aD Oz];exact hE0 v Oz
 obtain rfl:i=n:=by omega
 rw[Nat.sub_self,cyA]at e
 obtain rfl:=cR e
 clear e hz0 hE0
 refine zb (zL (ye rfl (qw (xG (xv (xI (zn (zg (zO (zb (zL ?_)))))))))))
 refine cw_label (zn (zL (CodeW.mono (Q:=fun o=>∃(G:FF) (m:Nat) (es:List (Hp'×Value)) (Φ:Hp') (F:FF) (s1:St),o=.normal F s1∧F=lay G [(1,.pointer (some ⟨M,0,none⟩)),(3,.slice (some ⟨bt,0,none⟩) i (2*i)),(5,.int .i64 (m1:Int))]∧HL [] s s1 ((bt,.cells (es.map Prod.snd) 224)::(M,.cells [.int .i64 (i:Int),.slice al l.length cl] 166)::(xC es++Φ)) m∧m≤40000000∧TbR (U.x Φ) es ts1∧ts1.length=i) ?_ ?_)))
 rotate_left
 ·rintro _ ⟨G,m,es,Φ,F,s1,rfl,rfl,H,V,p,u⟩
  refine zn (zg (zO (zb (zL (zg (zx rfl (qX un223 rfl rfl rfl (wB (zb ?_)))))))))
  have N:∀v,v<i→∃a k,zF (es.map Prod.snd) v=some (.slice a (ts1.getD v []).length k)∧Rep (U.x (xC es++Φ)) Wo [.slice a (ts1.getD v []).length k] (ts1.getD v []):=fun v hv=>by
   have Z:v<es.length:=by rw[p.len];omega
   obtain⟨a,n9,cap,Y,ho⟩:=p.own v Oz
   have hn:=ho.1
   subst hn
   exact⟨a,cap,by rw[zJ,Zc Z,Y],ho.rep (dJ _ _) ((jH Z).trans (List.subset_append_left _ _))⟩
  have H0:=H
  have hh:(es.map Prod.snd).length=i:=by rw[bI,p.len,u]
  clear H p
  revert H0 N hh
  generalize es.map Prod.snd=cs
  generalize xC es++Φ=Φ
  intro N H hh
  refine yj (kP (fun k F s1=>∃(G:FF) (v m:Nat) (Φ:Hp') (a0:Option Addr) (k0:Nat) (out:List Int),F=lay G [(1,.pointer (some ⟨M,0,none⟩)),(5,.int .i64 (m1:Int)),(11,.slice a0 out.length k0),(80,.slice (some ⟨bt,0,none⟩) i (2*i)),(81,.int .i64 (i:Int)),(82,.int .i64 (v:Int))]∧HL [] s s1 ((bt,.cells cs 224)::(M,.cells [.int .i64 (i:Int),.slice al l.length cl] 166)::Φ) m∧m≤40000000+v*2000100∧v≤i∧k=i-v∧(∀v,v<i→∃a k,zF cs v=some (.slice a (ts1.getD v []).length k)∧Rep (U.x Φ) Wo [.slice a (ts1.getD v []).length k] (ts1.getD v []))∧Rep (U.x Φ) S3 [.slice a0 out.length k0] out∧cyE ((i:Int),l) (m1:Int) ts1 (i-v) v out=some r) ?_ i _ _ ?_)
  rotate_left
  ·exact⟨_,0,m,Φ,none,0,[],slots ⟨rfl,rfl,rfl,rfl,rfl,rfl,trivial⟩,H,bH V (Nat.le_add_right _ _),by omega,by omega,N,⟨none,0,[],rfl,.inr (.nil 0 rfl rfl),rfl,fun k x h=>nomatch h⟩,hz2⟩
  clear H V N
  rintro k F s1 ⟨G,v,m,Φ,a0,k0,out,rfl,H,V,hv,rfl,N,E,e⟩
  refine zg (kA rfl rfl (fun h2=>?_) (fun h2=>?_))
  ·rw[show i-v=(i-(v+1))+1 by omega,cyE]at e
   obtain⟨t,ht,e⟩:=bind_some e
   obtain⟨c,hc,e⟩:=bind_some e
   obtain⟨a,k9,hg9,K⟩:=N v Oz
   obtain⟨_,_,J⟩:=zar (d:=[]) ht
   rw[Int.toNat_natCast]at J
   rw[J]at hg9 K
   have hgg:zF cs (0+(v:Int).toNat*1)=some (.slice a t.length k9):=by rw[Int.toNat_natCast,cG,cA];exact hg9
   refine zb (zL (yN rfl (yo (zn (zL (yj (zg (zf rfl (z7 zcN rfl rfl Oz Oz (yc sh224 rfl H.own0 hgg (z4 rfl ?_)))))))))))
   refine yq rfl (zb (zg (qr sh166 rfl H.own1 rfl (zx rfl (zf rfl (zf rfl (ym rfl fc212 rfl (jK (first_ok hI H.fine (hK.x H (D:=Φ) Z8) (hS xP) K hc (H.rm Oz)) (fun v9 s9 D9 Hc z=>?_)))))))))
   obtain⟨Φ',ku,kd,H⟩:=ZM (U:=U) (A:=[]) [_,_] H Hc
   have H:HL [] s _ (_::_::Φ') _:=H
   have N:∀v,v<i→∃a k,zF cs v=some (.slice a (ts1.getD v []).length k)∧Rep (U.x Φ') Wo [.slice a (ts1.getD v []).length k] (ts1.getD v []):=fun v hv=>by
    obtain⟨a,k,h1,h2⟩:=N v hv
    exact⟨a,k,h1,Rep.mono (τ:=Wo) ku h2⟩
   replace E:=Rep.mono (τ:=S3) ku E
   replace z:Rep (U.x Φ') S3 [v9] c:=Rep.mono (τ:=S3) kd z
   clear ku kd Hc K
   obtain⟨ac,kc,Lc,hce,hSc⟩:=z
   cases hce
   have hcR:Rep (U.x Φ') S3 [.slice ac c.length kc] c:=⟨ac,kc,Lc,rfl,hSc⟩
   clear hSc
   refine yq rfl (zb (zg (zx rfl (qX Y6 rfl rfl rfl (J6 rfl rfl (fun h3=>?_) (fun h3=>?_))))))
   ·rw[aD Oz]at e
    refine xA rfl (zx rfl (qX Y6 rfl rfl rfl (Xl rfl rfl (fun h4=>?_) (fun h4=>?_))))
    ·rw[aF Oz]at e
     refine xA rfl (xE rfl (xE rfl (xE rfl (xE rfl (op_pick1C rfl (vJ rfl rfl (zb (yN rfl (zQ (zx rfl (yq rfl ?_)))))))))))
     refine zb (xc (zn (zQ (xX rfl rfl (by unfold yy;omega) (zf rfl (zb (yA ?_)))))))
     exact⟨i-(v+1),by omega,_,v+1,_,Φ',ac,kc,c,slots ⟨rfl,rfl,rfl,rfl,rfl,rfl,trivial⟩,H,by omega,by omega,rfl,N,hcR,e⟩
    rw[aD Oz]at e
    obtain⟨r9,hr9,e⟩:=bind_some e
    refine xA rfl (zx rfl (zx rfl (ym rfl fc205 rfl (jK (d205 hI H.fine (hK.x H (D:=Φ') Z8) (x:=(c,out)) ⟨_,_,rfl,hcR,_,rfl,E⟩ hr9 (H.rm Oz)) (fun v9 s9 D9 Hc z=>?_)))))
    obtain rfl:v9=_:=z
    have H:=H.callE Hc
    have H:=H.sub (List.sublist_append_left _ _)
    clear Hc
    refine kA rfl rfl (fun h5=>?_) (fun h5=>?_)
    ·rw[aF h5]at e
     refine wo rfl rfl (vJ rfl rfl (zb (yN rfl (zQ (zx rfl (yq rfl (zb (xc (zn (zQ (xX rfl rfl (by unfold yy;omega) ?_)))))))))))
     refine zf rfl (zb (yA ?_))
     exact⟨i-(v+1),by omega,_,v+1,_,Φ',ac,kc,c,slots ⟨rfl,rfl,rfl,rfl,rfl,rfl,trivial⟩,H,by omega,by omega,rfl,N,hcR,e⟩
    rw[aD h5]at e
    refine wo rfl rfl (vJ rfl rfl (zb (ye rfl (yo (xc (zn (zQ (xX rfl rfl (by unfold yy;omega) (zf rfl (zb (yA ?_)))))))))))
    exact⟨i-(v+1),by omega,_,v+1,_,Φ',a0,k0,out,slots ⟨rfl,rfl,rfl,rfl,rfl,rfl,trivial⟩,H,by omega,by omega,rfl,N,E,e⟩
   ·rw[aF Oz]at e
    refine xA rfl (xE rfl (xE rfl (xE rfl (xE rfl (xE rfl (xE rfl (xE rfl (xE rfl (xE rfl (gZ rfl (zb ?_)))))))))))
    refine ye rfl (yo (xc (zn (zQ (xX rfl rfl (by unfold yy;omega) (zf rfl (zb (yA ?_))))))))
    exact⟨i-(v+1),by omega,_,v+1,_,Φ',a0,k0,out,slots ⟨rfl,rfl,rfl,rfl,rfl,rfl,trivial⟩,H,by omega,by omega,rfl,N,E,e⟩
  obtain rfl:v=i:=by omega
  rw[Nat.sub_self,cyE]at e
  obtain rfl:=cR e
  refine zb (zL (ye rfl (qw (xG (xv (xI (zn (zg (zx rfl (yq rfl (zb ?_)))))))))))
  refine qH (xD (uH ?_))
  exact⟨Φ,H.drop0.drop0.up Oz,E⟩
 refine yj (kP (fun k F s1=>∃(G:FF) (q m:Nat) (es:List (Hp'×Value)) (Φ:Hp') (ts:List Tb'),F=lay G [(1,.pointer (some ⟨M,0,none⟩)),(3,.slice (some ⟨bt,0,none⟩) i (2*i)),(5,.int .i64 (q:Int))]∧HL [] s s1 ((bt,.cells (es.map Prod.snd) 224)::(M,.cells [.int .i64 (i:Int),.slice al l.length cl] 166)::(xC es++Φ)) m∧m≤200+q*1200000∧q≤i∧k=i-q∧TbR (U.x Φ) es ts∧ts.length=i∧cyD ((i:Int),l) (i-q) q ts=some (m1,ts1)) ?_ i _ _ ?_)
 rotate_left
 ·exact⟨_,0,m,es,Φ,ts,slots ⟨rfl,rfl,rfl,trivial⟩,H,by omega,by omega,by omega,p,u,hz1⟩
 clear H V p hz1 u hi h ts es Φ m
 rintro k F s1 ⟨G,q,m,es,Φ,ts,rfl,H,V,hi,rfl,p,u,e⟩
 refine zL (zg (zf rfl (zy zad rfl (yc sh3 rfl H.own1 rfl (kA rfl rfl (fun h=>?_) (fun h=>?_))))))
 ·refine zb (yN rfl (yo (zn (yj (zg (zf rfl (xX rfl rfl (by unfold yy;omega) (z4 rfl (zb (zL (zg ?_)))))))))))
  refine zx rfl (qX un223 rfl rfl rfl (wB (zb ?_)))
  rw[show i-q=(i-(q+1))+1 by omega,cyD]at e
  obtain⟨ts2,g,e⟩:=bind_some e
  obtain⟨bb,f,e⟩:=bind_some e
  rw[show(((i:Int),l):Int×List Bd').1.toNat=i from Int.toNat_natCast i]at g f
  refine yj (kP (fun k F s1=>∃(G:FF) (j m:Nat) (es:List (Hp'×Value)) (Φ:Hp') (ts:List Tb'),F=lay G [(1,.pointer (some ⟨M,0,none⟩)),(3,.slice (some ⟨bt,0,none⟩) i (2*i)),(5,.int .i64 ((q:Int)+1)),(36,.slice (some ⟨bt,0,none⟩) i (2*i)),(37,.int .i64 (i:Int)),(38,.int .i64 (j:Int))]∧HL [] s s1 ((bt,.cells (es.map Prod.snd) 224)::(M,.cells [.int .i64 (i:Int),.slice al l.length cl] 166)::(xC es++Φ)) m∧m≤200+q*1200000+j*32400∧j≤i∧k=i-j∧TbR (U.x Φ) es ts∧ts.length=i∧cyB ((i:Int),l) ((q:Int)+1) (i-j) j ts=some ts2) ?_ i _ _ ?_)
  rotate_left
  ·exact⟨_,0,m,es,Φ,ts,slots ⟨rfl,rfl,rfl,rfl,rfl,rfl,trivial⟩,H,bH V (Nat.le_add_right _ _),by omega,by omega,p,u,g⟩
  ·clear H V p g
   rintro k F s1 ⟨G,j,m,es,Φ,ts,rfl,H,V,hj,rfl,p,u,g⟩
   refine zg (kA rfl rfl (fun h2=>?_) (fun h2=>?_))
   ·refine zb (zL (yN rfl (yo (zn (zL (yj ?_))))))
    rw[show i-j=(i-(j+1))+1 by omega,cyB]at g
    obtain⟨t,ht,g⟩:=bind_some g
    obtain⟨w,hw,g⟩:=bind_some g
    obtain⟨nx,hnx,g⟩:=bind_some g
    obtain⟨t',ht',g⟩:=bind_some g
    have T:j<es.length:=by rw[p.len];omega
    obtain⟨_,_,J⟩:=zar (d:=[]) ht
    rw[Int.toNat_natCast]at g J
    obtain⟨a,n9,cap,Y,ho⟩:=p.own j Oz
    rw[J]at ho
    have P:zF (es.map Prod.snd) (0+(j:Int).toNat*1)=some (.slice a n9 cap):=by rw[Int.toNat_natCast,cG,cA,zJ,Zc T,Y]
    obtain⟨b,c,C,rfl,hD,hq0,hq1,hC,K⟩:=own_at ho hw
    obtain⟨a2,k2,L2,rfl,O⟩:=K
    have K:Rep (U.x Φ) jN [.slice a2 w.length k2] w:=⟨a2,k2,L2,rfl,O⟩
    clear O
    have L:(b,MObj.cells c 226)∈xC es:=jH T (by rw[hD];exact aV.mpr rfl)
    have hgb:=(H.own (b,.cells c 226) (by simp[L])).1
    have hlb:=(H.own (b,.cells c 226) (by simp[L])).2.1
    have hlb:b<zw:=by have:=H.most;omega
    refine zg (zf rfl (z7 zcN rfl rfl Oz Oz (yc sh224 rfl H.own0 P (z4 rfl (yq rfl (zb (uv [⟨0,0,.light,[3,8]⟩,⟨1,0,.light,[3,8]⟩,⟨2,0,.light,[3,8]⟩,⟨3,0,.light,[8]⟩,⟨4,0,.light,[3]⟩,⟨5,0,.light,[3]⟩,⟨6,32,.light,[3]⟩,⟨7,112,.light,[3]⟩,⟨8,240,.light,[3]⟩,⟨9,504,.whole,[]⟩,⟨10,1016,.whole,[]⟩,⟨11,2044,.whole,[]⟩,⟨12,4095,.light,[]⟩,⟨13,8191,.whole,[]⟩] Z0 Z0 (za rfl rfl (zx rfl ⟨rfl,(za rfl rfl (zf rfl ⟨rfl,(za rfl rfl (zx rfl ⟨rfl,(k6 rfl rfl sh166 rfl H.own1 (H.lim1 Oz) rfl ?_)⟩))⟩))⟩)))))))))
    refine za rfl rfl (zx rfl ⟨rfl,(za rfl rfl (zf rfl ⟨rfl,(za rfl rfl (wa rfl rfl (by unfold yy;omega) ⟨rfl,(za rfl rfl (z7 el224 rfl rfl hq0 hq1 ⟨rfl,(yL rfl rfl sh226 rfl hgb hlb (part0 hC) (dw0 rfl rfl rfl H (ym rfl fc211 rfl (jK (d211 hI H.fine (hK.x H (D:=Φ) Z8) (x:=(((i:Int),l),w)) ⟨_,_,rfl,hS xP,_,rfl,K⟩ hnx (H.rm Oz)) (fun v9 s9 D9 Hc z=>?_)))))⟩))⟩))⟩))⟩)
    obtain⟨Φ',ku,kd,H⟩:=ZM (U:=U) (A:=xC es) [_,_] H Hc
    refine⟨⟨_,_,H⟩,?_⟩
    replace p:=p.mono ku
    replace ho:=ho.mono ku
    replace z:=RepV.mono kd z
    clear ku kd Hc K
    obtain⟨a3,k3,L3,he3,hS3⟩:=z
    rw[List.cons.injEq]at he3
    obtain rfl:=he3.1
    have K:Rep (U.x Φ') jN [.slice a3 nx.length k3] nx:=⟨a3,k3,L3,rfl,hS3⟩
    clear hS3 he3
    refine dw0 rfl rfl rfl H (xS (c:=[.slice a3 nx.length k3]) H sl224 rfl rfl Oz (fun b53 s10 H=>?_))
    refine⟨⟨_,_,H⟩,?_⟩
    have hgt:=H.own0
    have H:=zav (es:=es) (a:=j) H.drop0 T
    refine dw0 rfl rfl rfl H (Za (X:=[[.slice a3 nx.length k3]]) H ho ht' sl224 un224 rfl rfl rfl (qG hgt rfl) rfl Uz rfl (fun k y h=>by obtain⟨rfl,rfl⟩:=get1 h;exact K) Uz Oz (fun a5 cap5 b31 c5 s38 H ho=>?_))
    refine⟨⟨_,_,H⟩,?_⟩
    have H:=fjoinD (B:=[_]) (v:=.slice a5 t'.length cap5) H T
    refine za rfl rfl (z7 zcN rfl rfl Oz Oz ⟨rfl,(dw0 rfl rfl rfl H (xu (vs:=[.slice a5 t'.length cap5]) H sz224 rfl rfl rfl rfl (c':=(es.set j ([(b31,.cells c5 226)],.slice a5 t'.length cap5)).map Prod.snd) (by rw[Int.toNat_natCast,cG,cA];exact uo (vl:=undef) T) Oz (fun s8 H=>?_)))⟩)
    refine⟨⟨_,_,H⟩,(yV (xc (zn (zQ (xX rfl rfl (by unfold yy;omega) (zf rfl (zb (yA ?_))))))))⟩
    exact⟨i-(j+1),by omega,_,j+1,_,_,Φ',ts.set j t',slots ⟨rfl,rfl,rfl,rfl,rfl,rfl,trivial⟩,H,by omega,by omega,rfl,p.set Oz ho,by rw[bP];exact u,g⟩
   obtain rfl:j=i:=by omega
   rw[Nat.sub_self,cyB]at g
   obtain rfl:=cR g
   clear g
   refine zb (zL (ye rfl (qw (xG (xv (xI (zn (zg (zx rfl (qX un223 rfl rfl rfl (wB ?_)))))))))))
   refine zb (yj (kP (fun k F s1=>∃(G:FF) (v m:Nat) (Φ:Hp'),F=lay G [(1,.pointer (some ⟨M,0,none⟩)),(3,.slice (some ⟨bt,0,none⟩) j (2*j)),(5,.int .i64 ((q:Int)+1)),(57,.slice (some ⟨bt,0,none⟩) j (2*j)),(58,.int .i64 (j:Int)),(59,.int .i64 (v:Int))]∧HL [] s s1 ((bt,.cells (es.map Prod.snd) 224)::(M,.cells [.int .i64 (j:Int),.slice al l.length cl] 166)::(xC es++Φ)) m∧m≤200+q*1200000+1036800+v*10∧v≤j∧k=j-v∧TbR (U.x Φ) es ts∧cyC ((q:Int)+1) (j-v) v ts=some bb) ?_ j _ _ ?_))
   rotate_left
   ·exact⟨_,0,m,Φ,slots ⟨rfl,rfl,rfl,rfl,rfl,rfl,trivial⟩,H,by omega,by omega,by omega,p,f⟩
   clear H V p f
   rintro k F s1 ⟨G,v,m,Φ,rfl,H,V,hv,rfl,p,f⟩
   refine zg (kA rfl rfl (fun h3=>?_) (fun h3=>?_))
   ·refine zb (zL (yN rfl (yo (zn (zL (yj ?_))))))
    rw[show j-v=(j-(v+1))+1 by omega,cyC]at f
    obtain⟨t,ht,f⟩:=bind_some f
    obtain⟨w,hw,f⟩:=bind_some f
    obtain⟨⟨e1,e2⟩,he,f⟩:=bind_some f
    have Z:v<es.length:=by rw[p.len];omega
    obtain⟨_,_,J⟩:=zar (d:=[]) ht
    rw[Int.toNat_natCast]at J
    obtain⟨a,n9,cap,Y,ho⟩:=p.own v Oz
    rw[J]at ho
    have P:zF (es.map Prod.snd) (0+(v:Int).toNat*1)=some (.slice a n9 cap):=by rw[Int.toNat_natCast,cG,cA,zJ,Zc Z,Y]
    obtain⟨b,c,C,rfl,hD,hq0,hq1,hC,K⟩:=own_at ho hw
    obtain⟨a2,k2,L2,rfl,O⟩:=K
    have K:Rep (U.x Φ) jN [.slice a2 w.length k2] w:=⟨a2,k2,L2,rfl,O⟩
    clear O
    have L:(b,MObj.cells c 226)∈xC es:=jH Z (by rw[hD];exact aV.mpr rfl)
    have hgb:=(H.own (b,.cells c 226) (by simp[L])).1
    have hKx:Knw _ (U.x Φ):=hK.x H (D:=Φ) Z8
    obtain⟨b2,off2,rfl,hw0,hw1⟩:=K.at hKx he
    obtain⟨c2,C2,hg2,hb2,hc2,hC2⟩:=K.cells hKx he
    have hl5:C2.length=5:=Rep.len (τ:=zdC) hC2
    have hp5:=Rep.plain (τ:=zdC) hC2
    obtain⟨d1,d2,rfl,hd1,hd2⟩:=hC2
    obtain rfl:d1=_:=hd1
    have hl4:d2.length=4:=Rep.len (τ:=.rat) hd2
    refine zg (zf rfl (z7 zcN rfl rfl Oz Oz (yc sh224 rfl H.own0 P (z4 rfl (yq rfl (zb (zg (zx rfl (zf rfl (z7 el224 rfl rfl hq0 hq1 (yc sh226 rfl hgb (part0 hC) ?_)))))))))))
    refine zf rfl (z7 el226 rfl rfl hw0 hw1 (qr sh229 rfl hg2 hc2 (xW H zf229 Oz (fun b10 s8 H=>?_))))
    refine xu (vs:=[.bool e1]++d2) H sz229 rfl rfl (xq hl5) hp5 (yQ (by rw[hl5];rfl)) Oz (fun s9 H=>?_)
    refine zb (zg (zy of229_0 rfl (yc sh4 rfl H.own0 rfl (xA rfl ?_))))
    cases e1 with
    |true=>
     rw[aF rfl]at f
     obtain⟨r9,hr9,f⟩:=bind_some f
     refine zy of229_1 rfl (qr sh34 rfl H.own0 (show y8 4 (xw (0+1) ([.bool true]++d2))=some d2 from xM hl4) (ym rfl fc193 rfl (jK (d193 hI H.fine (hK.x H (D:=Φ) Z8) (x:=e2) ⟨_,rfl,_,rfl,hd2⟩ hr9 (H.rm Oz)) (fun v9 s9 D9 Hc z=>?_))))
     obtain rfl:v9=_:=z
     have H:=H.callE Hc
     have H:=H.sub (List.sublist_append_left _ _)
     clear Hc
     refine kA rfl rfl (fun h4=>?_) (fun h4=>?_)
     ·rw[aF h4]at f
      obtain rfl:=cR f
      rw[aF rfl]at e
      obtain⟨rfl,rfl⟩:=Prod.mk.inj (cR e)
      refine vJ rfl rfl (zb (yN rfl (qw (VM rfl (xG (xv (VM rfl (VM rfl (xv (xI ?_))))))))))
      exact⟨_,_,es,Φ,_,_,rfl,slots ⟨rfl,rfl,rfl,trivial⟩,H.drop0,by omega,p,u⟩
     rw[aD h4]at f
     refine vJ rfl rfl (zb (ye rfl (yo (xc (zn (zQ (xX rfl rfl (by unfold yy;omega) (zf rfl (zb (yA ?_))))))))))
     exact⟨j-(v+1),by omega,_,v+1,_,Φ,slots ⟨rfl,rfl,rfl,rfl,rfl,rfl,trivial⟩,H.drop0,by omega,by omega,rfl,p,f⟩
    |false=>
     rw[aD Bool.false_ne_true]at f
     refine xE rfl (xE rfl (xE rfl (xE rfl (gZ rfl (zb (ye rfl (yo (xc (zn (zQ (xX rfl rfl (by unfold yy;omega) ?_)))))))))))
     refine zf rfl (zb (yA ?_))
     exact⟨j-(v+1),by omega,_,v+1,_,Φ,slots ⟨rfl,rfl,rfl,rfl,rfl,rfl,trivial⟩,H.drop0,by omega,by omega,rfl,p,f⟩
   obtain rfl:v=j:=by omega
   rw[Nat.sub_self,cyC]at f
   obtain rfl:=cR f
   rw[aD Uz]at e
   refine zb (zL (ye rfl (qw (xG (xv (xI (xc (yA ?_))))))))
   exact⟨v-(q+1),by omega,_,q+1,_,es,Φ,ts,slots ⟨rfl,rfl,rfl,trivial⟩,H,by omega,by omega,rfl,p,u,e⟩
 obtain rfl:q=i:=by omega
 rw[Nat.sub_self,cyD]at e
 obtain⟨rfl,rfl⟩:=Prod.mk.inj (cR e)
 refine zb (ye rfl (qw (xG (xv (xI ?_)))))
 exact⟨_,_,es,Φ,_,_,rfl,slots ⟨rfl,rfl,rfl,trivial⟩,H,by omega,p,u⟩
end Go.Proofs.YtocnbjjmmgolfaaGreat
