/- zJ law: what Check returns for places whose turns are right. -/
import Derived.Test.YtocnbjjmmgolfaaGreatA33
import Derived.Test.YtocnbjjmmgolfaaGreatA31
set_option linter.unusedSimpArgs false
set_option linter.unusedVariables false
set_option linter.unusedSectionVars false
namespace Go.Proofs.YtocnbjjmmgolfaaGreat
open Go Go.M Go.Proofs.C14
def tnA(A:List Pl):List Q2:=A.map (·.1)
def xsA(A:List Pl):List Rat:=A.map (·.2.1)
def ysA(A:List Pl):List Rat:=A.map (·.2.2)
structure ChkP(P:List Pc)(F:List Fq)(A:List Pl):Prop where
 ok:okB P F=true
 root:∀i (hi:i<A.length),(kg P.length F).getD i 0=(i:Int)→A[i].1=z7∧A[i].2=(0,0)
 fit:∀f∈F,vT (tnA A) f.2.1=aft (vT (tnA A) f.1) f.2.2.2.2.2.1
 sx:Sat ((YQ P (tnA A) F).map toE) (fx (xsA A))
 sy:Sat ((XA P (tnA A) F).map toE) (fx (ysA A))
section
variable{P:List Pc}{F:List Fq}{K:Nat}(h:CaseOK P F K){A:List Pl}(hl:A.length=P.length)(hA:∀v∈A,PlOK K v)(hu:∀v∈A,uniB v.1=true)
include h hl hA hu
theorem check_ok:(ChkP P F A→z24 P F A=some (if vL P (kg P.length F) A=true then 13 else 0))∧(¬ChkP P F A→∃e,z24 P F A=some e∧e≠0∧e≠13):=by
 have r:=h.k
 have hn:=h.n
 have e1:=ZG h.fl h.tu rfl h.n.2 h.pc
 cases b:okB P F with
 |false=>
  refine⟨fun c=>absurd c.ok (by rw[b];decide),fun _=>⟨1,?_,by decide,by decide⟩⟩
  unfold okB at b
  rw[b,aE Y8]at e1
  unfold z24
  rw[e1,aA,aG Y8]
 |true=>
 have s:=b
 unfold okB at s
 rw[s,aG rfl]at e1
 have ro:=zdN b
 have lR:=ro.len
 have D:=z17_eq h b
 generalize M:kg P.length F=R at *
 have rR:∀i (hi:i<R.length),0≤R[i]∧R[i]<P.length:=fun i hi=>by
  have:=ro.le i Oz
  rw[zO hi]at this
  exact⟨this.1,by omega⟩
 have uni:∀i (hi:i<A.length),z62 A[i]=some false:=fun i hi=>by
  have p:=hA _ (aK hi)
  obtain⟨h1,-⟩:=zdD r ⟨p.turn.1.le (show 1≤12 by decide),p.turn.2.le (show 1≤12 by decide)⟩
  unfold z62
  rw[h1,hu _ (aK hi)]
  rfl
 have lens:∀{α:Type} {f:Pl→α} (i:Nat),((A.take i).map f).length+1≤60000:=fun{α f} i=>by rw[bN,bR];omega
 have snoc:∀{α:Type} (f:Pl→α) (i:Nat) (hi:i<A.length),(A.take i).map f++[f A[i]]=(A.take (i+1)).map f:=fun f i hi=>by rw[yL hi,List.map_append];rfl
 have T:=r.s0 (B:=1) Uz
 have s4:=r.s1 (c:=4) (B:=360) Uz
 have G:SB 1 1:=⟨by decide,by decide⟩
 have still':V2 1 1 (qI 1,0):=⟨QV.int Uz,QV.int (n:=0) Uz⟩
 have zero:V2 1 1 (0,0):=⟨QV.int (n:=0) Uz,QV.int (n:=0) Uz⟩
 have qst:(qI 1,(0:Rat))=z7:=rfl
 have E:=ok_f b
 have tl:(tnA A).length=P.length:=by rw[tnA,bN];exact hl
 have tm:∀t∈tnA A,V2 K 1 t:=fun t h=>by
  obtain⟨v,hv,rfl⟩:=List.mem_map.mp h
  exact(hA v hv).turn
 obtain⟨I,gX,gY⟩:=Jf r rfl h.pc tl tm h.fl E
 have fxA:∀v,v<P.length→QV (K*4) 360 (fx (xsA A) v)∧QV (K*4) 360 (fx (ysA A) v):=fun v hv=>by
  have z:v<A.length:=by omega
  unfold fx xsA ysA
  rw[zO (by rw[bN];exact z),zO (by rw[bN];exact z),List.getElem_map,List.getElem_map]
  exact(hA _ (aK z)).at'
 obtain⟨X,p1,N⟩:=Wi r hn gX (xs:=xsA A) (by rw[xsA,bN];exact hl) fun v hv=>(fxA v hv).1
 obtain⟨Y,p2,O⟩:=Wi r hn gY (xs:=ysA A) (by rw[ysA,bN];exact hl) fun v hv=>(fxA v hv).2
 have Z:=zcG r hn.2 rfl hl lR (fun i hi=>rR i Oz) h.pc hA
 -- what is left to show of a result
 let Q:Option Int→Prop:=fun o=>(ChkP P F A→o=some (if vL P R A=true then 13 else 0))∧(¬ChkP P F A→∃e,o=some e∧e≠0∧e≠13)
 have bad:∀{e:Int},e≠0→e≠13→¬ChkP P F A→Q (some e):=fun h0 h1 hc=>⟨fun c=>absurd c hc,fun _=>⟨_,rfl,h0,h1⟩⟩
 show Q (z24 P F A)
 unfold z24
 rw[e1,aA,aE Y8,aE (by simp only[aB];omega)]
 refine zk A.length (fun i x=>x=(i:Int)) Q Oz rfl ?_ ?_
 ·rintro i x g hi rfl hg
  rw[aG (zN hi),zt hi,aA,uni i hi,aA,aE Uz,zp (show i<100000 by omega),aA]
  exact hg _ rfl
 rintro x g rfl
 rw[aE Y8,D,aA]
 refine zk A.length (fun i x=>x=((i:Int),(A.take i).map (·.1),(A.take i).map (·.2.1),(A.take i).map (·.2.2))∧∀j (hj:j<A.length),j<i→R.getD j 0=(j:Int)→A[j].1=z7∧A[j].2=(0,0)) Q Oz ⟨rfl,fun j _ hj=>by omega⟩ ?_ ?_
 ·rintro i x g hi ⟨rfl,y⟩ hg
  have u:i<R.length:=by omega
  have pl:=hA _ (aK hi)
  obtain⟨f1,-,-,-⟩:=Yo pl.turn still' T G
  obtain⟨-,f2,-,-⟩:=Yo pl.at' zero s4 G
  rw[aG (zN hi),zt hi,aA,zt u,aA]
  have next:(R[i]=(i:Int)→A[i].1=z7∧A[i].2=(0,0))→Q (g (((i+1:Nat):Int),(A.take (i+1)).map (·.1),(A.take (i+1)).map (·.2.1),(A.take (i+1)).map (·.2.2))):=fun h1=>hg _ ⟨rfl,fun j hj hji C=>by
   by_cases c:j=i
   ·subst c
    rw[zO u]at C
    exact h1 C
   ·exact y j hj Oz C⟩
  by_cases c:R[i]=(i:Int)
  ·have S:ChkP P F A→A[i].1=z7∧A[i].2=(0,0):=fun q=>q.root i hi (by rw[M,zO u];exact c)
   rw[aG (aH c),still_eq.1,aA,f1,aA]
   by_cases h1:A[i].1=(qI 1,0)
   ·rw[aH h1,aE Uz,f2,aA]
    by_cases h2:A[i].2=(0,0)
    ·rw[aH h2,aE Uz,yE (lens i),aA,yE (lens i),aA,yE (lens i),aA,zp (show i<100000 by omega),aA,snoc (·.1) i hi,snoc (·.2.1) i hi,snoc (·.2.2) i hi]
     exact next fun _=>⟨h1,h2⟩
    ·rw[aZ h2,aG Uz]
     exact bad Uz Uz fun q=>h2 (S q).2
   ·rw[aZ h1,aG Uz]
    exact bad Uz Uz fun q=>h1 (S q).1
  ·rw[aE (by simp only[aB];exact c),yE (lens i),aA,yE (lens i),aA,yE (lens i),aA,zp (show i<100000 by omega),aA,snoc (·.1) i hi,snoc (·.2.1) i hi,snoc (·.2.2) i hi]
   exact next fun h=>absurd h c
 rintro x g ⟨rfl,y⟩
 rw[aE Y8]
 simp only[bB]
 refine zk F.length (fun i x=>x=(i:Int)∧∀f∈F.take i,vT (tnA A) f.2.1=aft (vT (tnA A) f.1) f.2.2.2.2.2.1) Q (by have:=h.fl;omega) ⟨rfl,fun f hf=>by simp at hf⟩ ?_ ?_
 ·rintro i x g hi ⟨rfl,l⟩ hg
  have hi6:=h.fl
  have w:=aK hi
  have m:=E _ w
  obtain⟨d,hd,J,-⟩:=h.tu _ w
  have ia:idx (A.map (·.1)) F[i].1=some (vT (tnA A) F[i].1):=by
   have a0:=m.a0;have ab:=m.ab;have bn:=m.bn
   obtain⟨a,ha⟩:=Int.eq_ofNat_of_zero_le a0
   rw[ha]
   exact xw V4
  have ib:idx (A.map (·.1)) F[i].2.1=some (vT (tnA A) F[i].2.1):=by
   have a0:=m.a0;have ab:=m.ab;have bn:=m.bn
   obtain⟨a,ha⟩:=Int.eq_ofNat_of_zero_le (show 0≤F[i].2.1 by omega)
   rw[ha]
   exact xw V4
  have mem:∀v:Int,0≤v→v<(P.length:Int)→V2 K 1 (vT (tnA A) v):=fun v h0 h1=>by
   unfold vT
   rw[zO (show v.toNat<(tnA A).length by omega)]
   exact tm _ (aK _)
  have ma:=mem F[i].1 m.a0 (by have:=m.ab;have:=m.bn;omega)
  have mb:=mem F[i].2.1 (by have:=m.a0;have:=m.ab;omega) m.bn
  obtain⟨U,-,V,W⟩:=zdj r hd ma J
  obtain⟨H,-,-,-⟩:=Yo mb V T W
  rw[aG (zN hi)]
  simp only[zt hi,aA,ia,ib,U,H,zp (show i<100000 by omega)]
  by_cases c:vT (tnA A) F[i].2.1=xI (vT (tnA A) F[i].1) F[i].2.2.2.2.2.1
  ·rw[aH c,aE Uz]
   refine hg _ ⟨rfl,fun f hf=>?_⟩
   rw[yL hi,aU,aX]at hf
   rcases hf with hf|rfl
   ·exact l f hf
   ·exact c
  ·rw[aZ c,aG Uz]
   exact bad Uz Uz fun q=>c (q.fit _ w)
 rintro x g ⟨rfl,l⟩
 rw[bB]at l
 rw[aE Y8]
 show Q ((z68 P F (tnA A)).bind _)
 rw[I,aA,aG (aH Oz)]
 show Q ((z69 (P.length:Int) (YQ P (tnA A) F) (xsA A) []).bind _)
 rw[p1,aA]
 cases X with
 |false=>exact bad Uz Uz fun q=>by have:=N.mpr q.sx;cases this
 |true=>
  rw[aG rfl,aE Uz]
  show Q ((z69 (P.length:Int) (XA P (tnA A) F) (ysA A) []).bind _)
  rw[p2,aA]
  cases Y with
  |false=>exact bad Uz Uz fun q=>by have:=O.mpr q.sy;cases this
  |true=>
   rw[aG rfl,aE Uz,Z,aA]
   refine⟨fun _=>by cases vL P R A<;>rfl,fun L=>absurd ⟨b,?_,l,N.mp rfl,O.mp rfl⟩ L⟩
   intro i hi C
   rw[M]at C
   exact y i hi hi C
end
def Γ18l:TypeId→Option Ty:=fun t=>find [(77,T77),(69,S77),(38,T38),(34,.rat),(72,T72),(4,.bool),(3,(.int .i64)),(36,T36),(40,T40),(27,T27),(54,T54),(87,T87),(214,T214),(126,T126),(162,T162),(164,Qj),(166,uv),(139,S38),(290,T290),(271,T271),(185,VV),(229,zdl),(226,jJ),(125,T125),(118,ji)] t
noncomputable def z18:Option Bool:=((z35 0 [(0,0),(2,0),(2,2),(0,2)]).bind fun r1=>((z35 1 [(0,0),(2,0),(2,2),(0,2)]).bind fun r2=>((z35 2 [(0,0),(2,0),(2,2),(0,2)]).bind fun b=>((z35 3 [(0,0),(2,0),(2,2),(0,2)]).bind fun c=>((z37).bind fun d=>((z37).bind fun e=>((z37).bind fun f=>((z37).bind fun g=>((z26 [r1,r2,b,c] [(0,1,1,3,1,d,(0,0),0,0),(1,2,2,0,1,e,(0,0),0,0),(2,3,3,1,1,f,(0,0),0,0),(0,3,2,0,1,g,(0,0),0,0)]).bind fun k=>((z37).bind fun s=>((z37).bind fun t=>((z41 2 0).bind fun u=>((z37).bind fun v=>((z41 2 2).bind fun w=>((z37).bind fun x=>((z41 0 2).bind fun y=>((z37).bind fun r17=>((ofG (-1) 1).bind fun z=>((xh [(0,1,1,3,1,d,(0,0),0,0),(1,2,2,0,1,e,(0,0),0,0),(2,3,3,1,1,f,(0,0),0,0),(0,3,2,0,1,g,(0,0),0,0)] 0 3).bind fun l=>((app ([]:List Fq) l).bind fun m=>((app m [(0,3,1,0,1,(0,z),(0,0),0,0)]).bind fun n=>((xh [(0,1,1,3,1,d,(0,0),0,0),(1,2,2,0,1,e,(0,0),0,0),(2,3,3,1,1,f,(0,0),0,0),(0,3,2,0,1,g,(0,0),0,0)] 0 3).bind fun o=>((app ([]:List Fq) o).bind fun p=>((z37).bind fun A=>((app p [(0,3,0,2,1,A,(0,0),0,0)]).bind fun q=>((z26 [r1,r2,b,c] n).bind fun a=>((z26 [r1,r2,b,c] q).bind fun h=>((idx [(0,1,1,3,1,d,(0,0),0,0),(1,2,2,0,1,e,(0,0),0,0),(2,3,3,1,1,f,(0,0),0,0),(0,3,2,0,1,g,(0,0),0,0)] 0).bind fun J=>((z37).bind fun B=>((z26 [r1,r2,b,c] [J,(0,1,2,0,1,B,(0,0),0,0)]).bind fun i=>((idx [(0,1,1,3,1,d,(0,0),0,0),(1,2,2,0,1,e,(0,0),0,0),(2,3,3,1,1,f,(0,0),0,0),(0,3,2,0,1,g,(0,0),0,0)] 0).bind fun K=>((z37).bind fun C=>((z26 [r1,r2,b,c] [K,(0,2,1,3,1,C,(0,0),0,0)]).bind fun j=>(if (decide (k.2.2≠0))=true then some false else(if (decide (a.2.2≠14))=true then some false else(if (decide (h.2.2≠14))=true then some false else(if (decide (i.2.2≠14))=true then some false else(if (decide (j.2.2≠13))=true then some false else(if (decide (0<(j.2.1.length:Int)))=true then some false else((z14 a.2.1 [0,1,2,3]).bind fun D=>(if D=true then((z14 h.2.1 a.2.1).bind fun E=>(if E=true then((z14 i.2.1 [0,1]).bind fun F=>(if F=true then((z29 k.1 [(s,0,0),(t,u),(v,w),(x,y)]).bind fun G=>(if G=true then((z24 [r1,r2,b,c] [(0,1,1,3,1,d,(0,0),0,0),(1,2,2,0,1,e,(0,0),0,0),(2,3,3,1,1,f,(0,0),0,0),(0,3,2,0,1,g,(0,0),0,0)] k.1).bind fun H=>(if (decide (H=0))=true then((xh k.1 0 3).bind fun r=>((z24 [r1,r2,b,c] [(0,1,1,3,1,d,(0,0),0,0),(1,2,2,0,1,e,(0,0),0,0),(2,3,3,1,1,f,(0,0),0,0),(0,3,2,0,1,g,(0,0),0,0)] r).bind fun I=>some (decide (I=1))))else some false))else some false))else some false))else some false))else some false)))))))))))))))))))))))))))))))))))))))))
noncomputable def T18c:=zm T26c 18 ⟨[],.bool,17285335892622,fun x=>z18⟩
theorem t18:ConOK T18c:=ConOK.next (Γ:=Γ18l) (Hs:=hsF []) (rs:=[17285335892622,4703]) t26 rfl fun x=>by kernel_rfl
def sqP(n:Int):Pc:=(n,0,[(0,0),(2,0),(2,2),(0,2)],[false,false,false,false],[0,0,0,0],0,qI 1,qI 1,qI 100,Rat.divInt 1 2)
def sqL:List Pc:=[sqP 0,sqP 1,sqP 2,sqP 3]
def ftT(a b ea eb:Int)(t:Rat×Rat):Fq:=(a,b,ea,eb,1,t,(0,0),0,0)
def ft(a b ea eb:Int):Fq:=ftT a b ea eb (qI 1,0)
theorem sq_ok{n:Int}(h0:0≤n)(h1:n≤999):PcOK (sqP n):=by
 refine⟨⟨(0,0),(2,0),(2,2),(0,2),rfl,⟨⟨by decide,by decide⟩,⟨by decide,by decide⟩,⟨by decide,by decide⟩,⟨by decide,by decide⟩⟩,by decide⟩,⟨h0,h1⟩,⟨Int.le_refl _,show(0:Int)≤4 by decide⟩,rfl,rfl,⟨qv0,eI⟩,⟨(QV.int (n:=1) (B:=10) Uz).up (k:=2),?_⟩,⟨(QV.int (n:=1) (B:=10) Uz).up (k:=2),eI⟩,rfl,rfl⟩
 exact qI_lt (show(0:Int)<1 by decide)
theorem sql_ok:∀p∈sqL,PcOK p:=by
 intro p hp
 simp only[sqL,aN,cE,or_false]at hp
 rcases hp with rfl|rfl|rfl|rfl<;>exact sq_ok Uz Uz
theorem tn_one:Tn 1 (qI 1,0):=tn_still
theorem tn_back:Tn 1 (0,Rat.divInt (-1) 1):=⟨1,0,-1,by omega,by omega,by decide,rfl,rfl⟩
theorem ex_case{F:List Fq}(a:F.length≤6)(h:∀f∈F,yv f.1∧yv f.2.1∧Tn 1 f.2.2.2.2.2.1):CaseOK sqL F 1:=
 ⟨⟨by decide,by decide⟩,sql_ok,a,fun f hf=>⟨(h f hf).1,(h f hf).2.1,(h f hf).2.2.le Uz⟩,zek fun f hf=>(h f hf).2.2,by decide⟩
theorem in_ft{a b ea eb:Int}{t:Rat×Rat}(ha:a.natAbs<100)(hb:b.natAbs<100)(c:Tn 1 t):yv (ftT a b ea eb t).1∧yv (ftT a b ea eb t).2.1∧Tn 1 (ftT a b ea eb t).2.2.2.2.2.1:=⟨WP (show a.natAbs<_ by omega),WP (show b.natAbs<_ by omega),c⟩
def E1:List Fq:=[ft 0 1 1 3,ft 1 2 2 0,ft 2 3 3 1,ft 0 3 2 0]
def E2:List Fq:=[ft 0 1 1 3,ft 1 2 2 0,ft 2 3 3 1,ftT 0 3 1 0 (0,Rat.divInt (-1) 1)]
def E3:List Fq:=[ft 0 1 1 3,ft 1 2 2 0,ft 2 3 3 1,ft 0 3 0 2]
def E4:List Fq:=[ft 0 1 1 3,ft 0 1 2 0]
def E5:List Fq:=[ft 0 1 1 3,ft 0 2 1 3]
theorem ce{F:List Fq}(a:F=E1∨F=E2∨F=E3∨F=E4∨F=E5):CaseOK sqL F 1:=by
 refine ex_case (by rcases a with rfl|rfl|rfl|rfl|rfl<;>decide) fun f hf=>?_
 rcases a with rfl|rfl|rfl|rfl|rfl<;>simp only[E1,E2,E3,E4,E5,aN,cE,or_false]at hf<;>(try rcases hf with rfl|rfl|rfl|rfl)<;>(try rcases hf with rfl|rfl)<;>first|exact in_ft Uz Uz tn_one|exact in_ft Uz Uz tn_back
def vH:List Q2:=[z7,z7,z7,z7]
theorem gC{F:List Fq}(h:CaseOK sqL F 1)(ok:okB sqL F=true)(hs:∀f∈F,f.2.2.2.2.2.1=z7):qw sqL.length F=vH∧(∃τ,AgF F τ):=by
 have a:AgF F fun _=>z7:=⟨fun _=>Yc,fun f hf=>by rw[hs f hf,jI]⟩
 refine⟨?_,_,a⟩
 have e:∀i,i<4→xB sqL.length F i=z7:=fun i hi=>by
  rw[Yd h.un a (JR ok) hi]
  exact gU Yc
 show [xB sqL.length F 0,xB sqL.length F 1,xB sqL.length F 2,xB sqL.length F 3]=_
 rw[e 0 Uz,e 1 Uz,e 2 Uz,e 3 Uz]
 rfl
theorem iw_pot{L:List Bd}{of:List Int}{j:Int}{pot:Nat→Rat}(h:∀i (hi:i<L.length),of.getD i 0≠j→pot L[i].2.1.toNat≤pot L[i].1.toNat+L[i].2.2):∀{w:List Int} {a v:Nat} {s:Rat},IW L a w v s→(∀x∈w,of.getD x.toNat 0≠j)→pot v≤pot a+s
 | [],a,v,s,⟨h1,h2⟩,_=>by rw[h1,h2,Rat.add_zero];exact eI
 |x::w,a,v,s,⟨i,e,hi,h1,s',h2,c⟩,b=>by
  have g:=iw_pot h c fun y k=>b y (aP _ k)
  have g2:=h i hi (by have:=b x (aS ..);rw[e,Int.toNat_natCast]at this;exact this)
  rw[h1]at g2
  rw[h2]
  grind
theorem cyc_need{L:List Bd}{n:Nat}{of c:List Int}(hc:CycF L n of c){j:Int}(pot:Nat→Rat)(h:∀i (hi:i<L.length),of.getD i 0≠j→pot L[i].2.1.toNat≤pot L[i].1.toNat+L[i].2.2):j∈c:=by
 obtain⟨w,⟨-,v,s,b,hs⟩,a,-⟩:=hc
 apply dY
 intro hj
 have:=iw_pot h b fun x hx e=>hj ((a j).mpr ⟨x,hx,e.symm⟩)
 grind
theorem zeO{L:List Bd}{n:Nat}{of c l:List Int}(hc:CycF L n of c)(hL:L.length=of.length)(hl:l.Pairwise (·<·))(h1:∀y∈of,y∈l)(h2:∀j∈l,∃pot:Nat→Rat,∀i (hi:i<L.length),of.getD i 0≠j→pot L[i].2.1.toNat≤pot L[i].1.toNat+L[i].2.2):c=l:=by
 have a:=hc
 obtain⟨w,⟨-,v,s,e,hs⟩,b,hp⟩:=hc
 refine Wh hp hl fun x=>⟨fun hx=>?_,fun hx=>?_⟩
 ·obtain⟨y,g,rfl⟩:=(b x).mp hx
  obtain⟨g0,g1⟩:=zem e y g
  rw[zO (show y.toNat<of.length by omega)]
  exact h1 _ (aK _)
 ·obtain⟨pot,h⟩:=h2 x hx
  exact cyc_need a pot h
section
variable{F:List Fq}{x:Nat→Rat}{f:Fq}{d:Rat×Rat}
theorem ZD(s:SolX sqL vH F x)(hf:f∈F)(hd:dif sqL vH f 0=d)(a:vG sqL f=0):x f.2.1.toNat=x f.1.toNat+d.1:=by
 obtain⟨h1,h2⟩:=s f hf 0 (cJ _)
 rw[hd,a]at h1 h2
 grind
theorem ua(s:SolY sqL vH F x)(hf:f∈F)(hd:dif sqL vH f 0=d)(a:vG sqL f=0):x f.2.1.toNat=x f.1.toNat+d.2:=by
 obtain⟨h1,h2⟩:=s f hf 0 (cJ _)
 rw[hd,a]at h1 h2
 grind
end
def at4(a b c d:Rat)(v:Nat):Rat:=[a,b,c,d].getD v 0
def FtE(f:Fq)(d:Rat×Rat):Prop:=dif sqL vH f 0=d∧vG sqL f=0
theorem f01:FtE (ft 0 1 1 3) (2,0):=⟨by decide +kernel,by decide +kernel⟩
theorem f12:FtE (ft 1 2 2 0) (0,2):=⟨by decide +kernel,by decide +kernel⟩
theorem f23:FtE (ft 2 3 3 1) (-2,0):=⟨by decide +kernel,by decide +kernel⟩
theorem f03:FtE (ft 0 3 2 0) (0,2):=⟨by decide +kernel,by decide +kernel⟩
theorem g03:FtE (ft 0 3 0 2) (0,-2):=⟨by decide +kernel,by decide +kernel⟩
theorem g01:FtE (ft 0 1 2 0) (0,2):=⟨by decide +kernel,by decide +kernel⟩
theorem f02:FtE (ft 0 2 1 3) (2,0):=⟨by decide +kernel,by decide +kernel⟩
def A1:List Pl:=[(z7,0,0),(z7,2,0),(z7,2,2),(z7,0,2)]
def A5:List Pl:=[(z7,0,0),(z7,2,0),(z7,2,0),(z7,0,0)]
theorem gW{F:List Fq}(a:F=E1∨F=E3∨F=E4∨F=E5):∀f∈F,f.2.2.2.2.2.1=z7:=by
 intro f hf
 rcases a with rfl|rfl|rfl|rfl<;>simp only[E1,E3,E4,E5,aN,cE,or_false]at hf<;>(try rcases hf with rfl|rfl|rfl|rfl)<;>(try rcases hf with rfl|rfl)<;>rfl
theorem res1:z26 sqL E1=some (A1,[],0):=by
 have h:=ce (.inl rfl)
 have ok:okB sqL E1=true:=by decide +kernel
 obtain⟨e,hτ⟩:=gC h ok (gW (.inl rfl))
 have hg:gw sqL E1:=⟨hτ,⟨at4 0 2 2 0,by rw[e];exact sat_X.mp (show ∀c∈(YQ sqL vH E1).map toE,at4 0 2 2 0 c.to≤at4 0 2 2 0 c.fr+c.m by decide +kernel)⟩,⟨at4 0 0 2 2,by rw[e];exact sat_Y.mp (show ∀c∈(XA sqL vH E1).map toE,at4 0 0 2 2 c.to≤at4 0 0 2 2 c.fr+c.m by decide +kernel)⟩⟩
 cases k7 h with
 |arg a=>rw[ok]at a;cases a
 |bad c a g=>exact absurd hg g
 |ok x y a g i j b=>
  rw[e]at i j b
  have sx:=sat_X.mp i.sat
  have sy:=sat_Y.mp j.sat
  have l:kg sqL.length E1=[0,0,0,0]:=by decide +kernel
  have x1:fx x 1=fx x 0+2:=ZD sx (f:=ft 0 1 1 3) (by simp[E1]) f01.1 f01.2
  have x2:fx x 2=fx x 1+0:=ZD sx (f:=ft 1 2 2 0) (by simp[E1]) f12.1 f12.2
  have x3:fx x 3=fx x 0+0:=ZD sx (f:=ft 0 3 2 0) (by simp[E1]) f03.1 f03.2
  have y1:fx y 1=fx y 0+0:=ua sy (f:=ft 0 1 1 3) (by simp[E1]) f01.1 f01.2
  have y2:fx y 2=fx y 1+2:=ua sy (f:=ft 1 2 2 0) (by simp[E1]) f12.1 f12.2
  have y3:fx y 3=fx y 0+2:=ua sy (f:=ft 0 3 2 0) (by simp[E1]) f03.1 f03.2
  have p:plL sqL.length [0,0,0,0] vH x y=A1:=by
   show [(z7,fx x 0-fx x 0,fx y 0-fx y 0),(z7,fx x 1-fx x 0,fx y 1-fx y 0),(z7,fx x 2-fx x 0,fx y 2-fx y 0),(z7,fx x 3-fx x 0,fx y 3-fx y 0)]=_
   rw[show fx x 0-fx x 0=0 by grind,show fx y 0-fx y 0=0 by grind,show fx x 1-fx x 0=2 by grind,show fx y 1-fx y 0=0 by grind,show fx x 2-fx x 0=2 by grind,show fx y 2-fx y 0=2 by grind,show fx x 3-fx x 0=0 by grind,show fx y 3-fx y 0=2 by grind]
   rfl
  have k:vL sqL [0,0,0,0] A1=false:=by decide +kernel
  rw[l,p,k,aE Uz]at b
  exact b
theorem res5:z26 sqL E5=some ([],[],13):=by
 have h:=ce (.inr (.inr (.inr (.inr rfl))))
 have ok:okB sqL E5=true:=by decide +kernel
 obtain⟨e,hτ⟩:=gC h ok (gW (.inr (.inr (.inr rfl))))
 have hg:gw sqL E5:=⟨hτ,⟨at4 0 2 2 0,by rw[e];exact sat_X.mp (show ∀c∈(YQ sqL vH E5).map toE,at4 0 2 2 0 c.to≤at4 0 2 2 0 c.fr+c.m by decide +kernel)⟩,⟨at4 0 0 0 0,by rw[e];exact sat_Y.mp (show ∀c∈(XA sqL vH E5).map toE,at4 0 0 0 0 c.to≤at4 0 0 0 0 c.fr+c.m by decide +kernel)⟩⟩
 cases k7 h with
 |arg a=>rw[ok]at a;cases a
 |bad c a g=>exact absurd hg g
 |ok x y a g i j b=>
  rw[e]at i j b
  have sx:=sat_X.mp i.sat
  have sy:=sat_Y.mp j.sat
  have l:kg sqL.length E5=[0,0,0,3]:=by decide +kernel
  have x1:fx x 1=fx x 0+2:=ZD sx (f:=ft 0 1 1 3) (by simp[E5]) f01.1 f01.2
  have x2:fx x 2=fx x 0+2:=ZD sx (f:=ft 0 2 1 3) (by simp[E5]) f02.1 f02.2
  have y1:fx y 1=fx y 0+0:=ua sy (f:=ft 0 1 1 3) (by simp[E5]) f01.1 f01.2
  have y2:fx y 2=fx y 0+0:=ua sy (f:=ft 0 2 1 3) (by simp[E5]) f02.1 f02.2
  have p:plL sqL.length [0,0,0,3] vH x y=A5:=by
   show [(z7,fx x 0-fx x 0,fx y 0-fx y 0),(z7,fx x 1-fx x 0,fx y 1-fx y 0),(z7,fx x 2-fx x 0,fx y 2-fx y 0),(z7,fx x 3-fx x 3,fx y 3-fx y 3)]=_
   rw[show fx x 0-fx x 0=0 by grind,show fx y 0-fx y 0=0 by grind,show fx x 1-fx x 0=2 by grind,show fx y 1-fx y 0=0 by grind,show fx x 2-fx x 0=2 by grind,show fx y 2-fx y 0=0 by grind,show fx x 3-fx x 3=0 by grind,show fx y 3-fx y 3=0 by grind]
   rfl
  have k:vL sqL [0,0,0,3] A5=true:=by decide +kernel
  rw[l,p,k,aG rfl]at b
  exact b
theorem res2:z26 sqL E2=some ([],[0,1,2,3],14):=by
 have ok:okB sqL E2=true:=by decide +kernel
 have hf:first (eds E2) (trn E2) E2.length=some (3,[0,1,2]):=by decide +kernel
 cases Yj (ce (.inr (.inl rfl)))with
 |arg b=>rw[ok]at b;cases b
 |turn k r b a e=>
  rw[hf]at a
  cases a
  exact e
 |xs c b a=>rw[hf]at a;cases a
 |ys c b a=>rw[hf]at a;cases a
 |ok x y b a=>rw[hf]at a;cases a
theorem res3:z26 sqL E3=some ([],[0,1,2,3],14):=by
 have h:=ce (.inr (.inr (.inl rfl)))
 have ok:okB sqL E3=true:=by decide +kernel
 obtain⟨i,hτ⟩:=gC h ok (gW (.inr (.inl rfl)))
 have hf:=(Xi h.un).mpr hτ
 cases Yj h with
 |arg a=>rw[ok]at a;cases a
 |turn k r a b=>rw[hf]at b;cases b
 |xs c a b g=>exact absurd ⟨at4 0 2 2 0,by rw[i];exact sat_X.mp (show ∀c∈(YQ sqL vH E3).map toE,at4 0 2 2 0 c.to≤at4 0 2 2 0 c.fr+c.m by decide +kernel)⟩ g
 |ys c a b g e n=>
  rw[i]at e
  rw[n,zeO (l:=[0,1,2,3]) e (by decide +kernel) Uz (by decide +kernel) fun j hj=>?_]
  simp only[aN,cE,or_false]at hj
  rcases hj with rfl|rfl|rfl|rfl
  ·exact⟨at4 0 (-4) (-2) (-2),by decide +kernel⟩
  ·exact⟨at4 0 0 (-2) (-2),by decide +kernel⟩
  ·exact⟨at4 0 0 2 (-2),by decide +kernel⟩
  ·exact⟨at4 0 0 2 2,by decide +kernel⟩
 |ok x y a b g e n=>
  rw[i]at e
  have sy:=sat_Y.mp e.sat
  have y1:fx y 1=fx y 0+0:=ua sy (f:=ft 0 1 1 3) (by simp[E3]) f01.1 f01.2
  have y2:fx y 2=fx y 1+2:=ua sy (f:=ft 1 2 2 0) (by simp[E3]) f12.1 f12.2
  have y3:fx y 3=fx y 2+0:=ua sy (f:=ft 2 3 3 1) (by simp[E3]) f23.1 f23.2
  have o:fx y 3=fx y 0 + -2:=ua sy (f:=ft 0 3 0 2) (by simp[E3]) g03.1 g03.2
  exact absurd o (by grind)
theorem res4:z26 sqL E4=some ([],[0,1],14):=by
 have h:=ce (.inr (.inr (.inr (.inl rfl))))
 have ok:okB sqL E4=true:=by decide +kernel
 obtain⟨m,hτ⟩:=gC h ok (gW (.inr (.inr (.inl rfl))))
 have hf:=(Xi h.un).mpr hτ
 cases Yj h with
 |arg a=>rw[ok]at a;cases a
 |turn k r a e=>rw[hf]at e;cases e
 |xs c a e g b i=>
  rw[m]at b
  rw[i,zeO (l:=[0,1]) b (by decide +kernel) Uz (by decide +kernel) fun j hj=>?_]
  simp only[aN,cE,or_false]at hj
  rcases hj with rfl|rfl
  ·exact⟨at4 0 0 0 0,by decide +kernel⟩
  ·exact⟨at4 0 2 0 0,by decide +kernel⟩
 |ys c a e g b i=>
  rw[m]at b
  rw[i,zeO (l:=[0,1]) b (by decide +kernel) Uz (by decide +kernel) fun j hj=>?_]
  simp only[aN,cE,or_false]at hj
  rcases hj with rfl|rfl
  ·exact⟨at4 0 2 0 0,by decide +kernel⟩
  ·exact⟨at4 0 0 0 0,by decide +kernel⟩
 |ok x y a e g b i=>
  rw[m]at g
  have sx:=sat_X.mp g.sat
  have x1:fx x 1=fx x 0+2:=ZD sx (f:=ft 0 1 1 3) (by simp[E4]) f01.1 f01.2
  have x2:fx x 1=fx x 0+0:=ZD sx (f:=ft 0 1 2 0) (by simp[E4]) g01.1 g01.2
  exact absurd x2 (by grind)
theorem a1_pl:∀v∈A1,PlOK 1 v:=by
 have s:V2 1 1 z7:=⟨QV.int (n:=1) Uz,QV.int (n:=0) Uz⟩
 have q:∀{n:Int},n.natAbs≤360→QV (1*4) 360 (qI n):=fun h=>(QV.int h).up (k:=4)
 intro v hv
 simp only[A1,aN,cE,or_false]at hv
 rcases hv with rfl|rfl|rfl|rfl
 ·exact⟨s,q (n:=0) Uz,q (n:=0) Uz⟩
 ·exact⟨s,q (n:=2) Uz,q (n:=0) Uz⟩
 ·exact⟨s,q (n:=2) Uz,q (n:=2) Uz⟩
 ·exact⟨s,q (n:=0) Uz,q (n:=2) Uz⟩
theorem chk1:z24 sqL E1 A1=some 0:=by
 have h:=ce (.inl rfl)
 have a:kg sqL.length E1=[0,0,0,0]:=by decide +kernel
 have b:vL sqL [0,0,0,0] A1=false:=by decide +kernel
 have:=(check_ok h (A:=A1) rfl a1_pl (by decide +kernel)).1 ⟨by decide +kernel,by rw[a];decide +kernel,by decide +kernel,(show ∀c∈(YQ sqL (tnA A1) E1).map toE,fx (xsA A1) c.to≤fx (xsA A1) c.fr+c.m by decide +kernel),(show ∀c∈(XA sqL (tnA A1) E1).map toE,fx (ysA A1) c.to≤fx (ysA A1) c.fr+c.m by decide +kernel)⟩
 rw[a,b,aE Uz]at this
 exact this
theorem chk_len{P:List Pc}{F:List Fq}{K:Nat}(h:CaseOK P F K)(ok:okB P F=true){A:List Pl}(hl:A.length≠P.length):z24 P F A=some 1:=by
 have e1:=ZG h.fl h.tu rfl h.n.2 h.pc
 unfold okB at ok
 rw[ok,aG rfl]at e1
 unfold z24
 rw[e1,aA,aE Y8,aG (aH Oz)]
theorem WO{l:List Int}(h:l.length≤11):z14 l l=some true:=by
 unfold z14
 rw[aE Y8]
 refine zk l.length (fun i (x:Int)=>x=(i:Int)) (fun o=>o=some true) Oz rfl ?_ ?_
 ·rintro i x g hi rfl hg
  rw[aG (zN hi),zt hi,aA,aA,aE Y8,zp Oz,aA]
  exact hg _ rfl
 ·rintro x g rfl
  rw[aE Y8]
theorem uL:z18=some true:=by
 have h:=ce (.inl rfl)
 have p:∀n:Int,z35 n [(0,0),(2,0),(2,2),(0,2)]=some (sqP n):=fun n=>zbK rfl
 have s:=still_eq.2
 have m:z41 2 0=some (qI 2,qI 0):=wK (a:=(2,0)) ⟨by decide,by decide⟩
 have o:z41 2 2=some (qI 2,qI 2):=wK (a:=(2,2)) ⟨by decide,by decide⟩
 have q:z41 0 2=some (qI 0,qI 2):=wK (a:=(0,2)) ⟨by decide,by decide⟩
 have r:ofG (-1) 1=some (Rat.divInt (-1) 1):=KB Uz ⟨by decide,by decide⟩
 have r1:z26 [sqP 0,sqP 1,sqP 2,sqP 3] [(0,1,1,3,1,(qI 1,0),(0,0),0,0),(1,2,2,0,1,(qI 1,0),(0,0),0,0),(2,3,3,1,1,(qI 1,0),(0,0),0,0),(0,3,2,0,1,(qI 1,0),(0,0),0,0)]=some (A1,[],0):=res1
 have r2:z26 [sqP 0,sqP 1,sqP 2,sqP 3] ([(0,1,1,3,1,(qI 1,0),(0,0),0,0),(1,2,2,0,1,(qI 1,0),(0,0),0,0),(2,3,3,1,1,(qI 1,0),(0,0),0,0)]++[(0,3,1,0,1,(0,Rat.divInt (-1) 1),(0,0),0,0)])=some ([],[0,1,2,3],14):=res2
 have t:z26 [sqP 0,sqP 1,sqP 2,sqP 3] ([(0,1,1,3,1,(qI 1,0),(0,0),0,0),(1,2,2,0,1,(qI 1,0),(0,0),0,0),(2,3,3,1,1,(qI 1,0),(0,0),0,0)]++[(0,3,0,2,1,(qI 1,0),(0,0),0,0)])=some ([],[0,1,2,3],14):=res3
 have u:z26 [sqP 0,sqP 1,sqP 2,sqP 3] [(0,1,1,3,1,(qI 1,0),(0,0),0,0),(0,1,2,0,1,(qI 1,0),(0,0),0,0)]=some ([],[0,1],14):=res4
 have v:z26 [sqP 0,sqP 1,sqP 2,sqP 3] [(0,1,1,3,1,(qI 1,0),(0,0),0,0),(0,2,1,3,1,(qI 1,0),(0,0),0,0)]=some ([],[],13):=res5
 have c1:z24 [sqP 0,sqP 1,sqP 2,sqP 3] [(0,1,1,3,1,(qI 1,0),(0,0),0,0),(1,2,2,0,1,(qI 1,0),(0,0),0,0),(2,3,3,1,1,(qI 1,0),(0,0),0,0),(0,3,2,0,1,(qI 1,0),(0,0),0,0)] A1=some 0:=chk1
 have g:z24 [sqP 0,sqP 1,sqP 2,sqP 3] [(0,1,1,3,1,(qI 1,0),(0,0),0,0),(1,2,2,0,1,(qI 1,0),(0,0),0,0),(2,3,3,1,1,(qI 1,0),(0,0),0,0),(0,3,2,0,1,(qI 1,0),(0,0),0,0)] [(z7,0,0),(z7,2,0),(z7,2,2)]=some 1:=chk_len h (by decide +kernel) Uz
 have w:z29 A1 [((qI 1,0),0,0),((qI 1,0),qI 2,qI 0),((qI 1,0),qI 2,qI 2),((qI 1,0),qI 0,qI 2)]=some true:=Wn h.k (A:=A1) Uz a1_pl
 have sl:∀{α:Type} {a b c d:α},xh [a,b,c,d] 0 3=some [a,b,c]:=rfl
 have e:∀{α:Type} {a b c:α},app ([]:List α) [a,b,c]=some [a,b,c]:=rfl
 have ap2:∀{α:Type} {a b c d:α},app [a,b,c] [d]=some ([a,b,c]++[d]):=rfl
 have i:∀{α:Type} {a b c d:α},idx [a,b,c,d] 0=some a:=rfl
 have y:xh A1 0 3=some [(z7,0,0),(z7,2,0),(z7,2,2)]:=rfl
 have n4:=WO (l:=[0,1,2,3]) Uz
 have j:=WO (l:=[0,1]) Uz
 unfold z18
 simp only[p,s,m,o,q,r,aA,r1,sl,e,ap2,r2,t,i,u,v]
 rw[aE Uz,aE Uz,aE Uz,aE Uz,aE Uz,aE Uz,n4,aA,aG rfl,aA,aG rfl,j,aA,aG rfl,w,aA,aG rfl,c1,aA,aG Uz,y,aA,g]
 rfl
end Go.Proofs.YtocnbjjmmgolfaaGreat
