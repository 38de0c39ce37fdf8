/- Plain law: fits that agree; the turns and the bounds of the same fits, and of fewer. -/
import Derived.Test.YtocnbjjmmgolfaaGreatA36
import Derived.Test.YtocnbjjmmgolfaaGreatA30
import Derived.Test.YtocnbjjmmgolfaaGreatA33
set_option linter.unusedSimpArgs false
set_option linter.unusedVariables false
set_option linter.unusedSectionVars false
namespace Go.Proofs.YtocnbjjmmgolfaaGreat
open Go Go.M Go.Proofs.C14
def tP(F:List Fq)(τ:Int->Q2):Prop:=(∀v,Un (τ v))/\∀f∈F,τ f.2.1=aft (τ f.1) f.2.2.2.2.2.1
def RB(F:List Fq):Prop:=∀f∈F,Un f.2.2.2.2.2.1
theorem VC{F:List Fq}{k:Nat}(hk:k<F.length):az F k=(F[k].1,F[k].2.1)/\dw F k=F[k].2.2.2.2.2.1:=by
 unfold az dw
 rw[zp hk]
 exact⟨rfl,rfl⟩
theorem fP{F:List Fq}{τ:Int->Q2}:tP F τ↔Cw (az F) (dw F) F.length τ:=by
 constructor
 .rintro⟨h1,h2⟩
  refine⟨h1,λk hk=>?_⟩
  obtain⟨e1,e2⟩:=VC hk
  rw[e1,e2]
  exact h2 _ (aL hk)
 .rintro⟨h1,h2⟩
  refine⟨h1,λf hf=>?_⟩
  obtain⟨k,hk,rfl⟩:=List.getElem_of_mem hf
  obtain⟨e1,e2⟩:=VC hk
  have:=h2 k hk
  rw[e1,e2]at this
  exact this
theorem ss{F:List Fq}(hU:RB F):∀k,k<F.length->Un (dw F k):=λk hk=>by
 rw[(VC hk).2]
 exact hU _ (aL hk)
theorem Xz{F:List Fq}(hU:RB F):first (az F) (dw F) F.length=none↔∃τ,tP F τ:=by
 constructor
 .intro h
  obtain⟨τ,hτ⟩:=Jt (ss hU) h
  exact⟨τ,fP.mpr hτ⟩
 .rintro⟨τ,hτ⟩
  exact JN (ss hU) (fP.mp hτ)
theorem cr.un{P:List Pc}{F:List Fq}{K:Nat}(h:cr P F K):RB F:=λf hf=>(h.ft f hf).tn.one
section
variable{n:Nat}{F F':List Fq}{τ:Int->Q2}(hU:RB F)(hA:tP F τ)(hE:∀f∈F,0<=f.1/\f.1<f.2.1/\f.2.1<(n:Int))
include hE in
theorem zgJ:dy (az F) n (yJ (az F) F.length) (xG n F):=u9 λk hk=>by
 rw[(VC hk).1];exact hE _ (aL hk)
include hU hA hE in
theorem gN{i:Nat}(hi:i<n):qY n F i=aft (bck (τ ((xG n F).getD i 0))) (τ i):=by
 have ro:=zgJ hE
 have hw:=zcd (ql _) ro hi
 unfold qY
 obtain⟨r,a⟩:=Option.isSome_iff_exists.mp hw
 rw[a]
 exact XP (ss hU) (fP.mp hA) (λk hk=>kY _ k hk) a
include hE in
theorem YC{f:Fq}(hf:f∈F):(xG n F).getD f.1.toNat 0=(xG n F).getD f.2.1.toNat 0:=by
 have ro:=zgJ hE
 obtain⟨a0,ab,bn⟩:=hE f hf
 obtain⟨k,hk,rfl⟩:=List.getElem_of_mem hf
 refine(ro.same _ _ Oz Oz).mp ?_
 have:=Kq (e:=az F) hk
 rw[(VC hk).1]at this
 rw[show((F[k].1.toNat:Nat):Int)=F[k].1 by omega,show((F[k].2.1.toNat:Nat):Int)=F[k].2.1 by omega]
 exact this
include hU hA hE in
theorem sq{f:Fq}(hf:f∈F):qY n F f.2.1.toNat=aft (qY n F f.1.toNat) f.2.2.2.2.2.1:=by
 obtain⟨a0,ab,bn⟩:=hE f hf
 rw[gN hU hA hE (i:=f.2.1.toNat) Oz,gN hU hA hE (i:=f.1.toNat) Oz,<-YC hE hf,show((f.1.toNat:Nat):Int)=f.1 by omega,show((f.2.1.toNat:Nat):Int)=f.2.1 by omega,xQ,hA.2 f hf]
include hU hA hE in
theorem BR{i:Nat}(hi:i<n):Un (qY n F i):=by
 rw[gN hU hA hE hi]
 exact(hA.1 _).bck.aft (hA.1 _)
end
def JO(P:List Pc)(F:List Fq):Prop:=(∃τ,tP F τ)/\(∃y,nt P (xg P.length F) F y)/\∃y,nu P (xg P.length F) F y
inductive tX(P:List Pc)(F:List Fq)(K:Nat)(o:Option (List Pl×List Int×Int)):Prop
 |arg:eD P F=false->o=some ([],[],1)->tX P F K o
 |bad (c:List Int):eD P F=true->¬JO P F->o=some ([],c,14)->tX P F K o
 |ok (x y:List Rat):eD P F=true->JO P F->Gg (Yb P (xg P.length F) F) P.length (K*4) x->Gg (Xb P (xg P.length F) F) P.length (K*4) y->o=some (if kE P (xG P.length F) (ef P.length (xG P.length F) (xg P.length F) x y)=true then([],[],13)else(ef P.length (xG P.length F) (xg P.length F) x y,[],0))->tX P F K o
theorem QM{P:List Pc}{F:List Fq}{K:Nat}(h:cr P F K):tX P F K (eP P F):=by
 have e:=Xz h.un
 cases Yw h with
 |arg h1 h2=>exact .arg h1 h2
 |turn k r h1 h2 a=>exact .bad _ h1 (λg=>by rw[e.mpr g.1]at h2;cases h2) a
 |xs c h1 h2 a d b=>exact .bad _ h1 (λg=>a g.2.1) b
 |ys c h1 h2 a d b=>exact .bad _ h1 (λg=>a g.2.2) b
 |ok x y h1 h2 a d b=>exact .ok x y h1 ⟨e.mp h2,⟨_,du.mp a.sat⟩,⟨_,dN.mp d.sat⟩⟩ a d b
section
variable{P:List Pc}{F F':List Fq}{K K':Nat}(h:cr P F K)(h':cr P F' K')
include h in
theorem Hv{R:List Int}{tr:List Nat}(d:dy (az F) P.length tr R){x y:List Rat}(b:∀v,v<P.length->QV (K*4) 180 (fx x v))(c:∀v,v<P.length->QV (K*4) 180 (fx y v)):∀v∈ef P.length R (xg P.length F) x y,eV K v:=by
 intro v hv
 obtain⟨i,hi,rfl⟩:=List.mem_map.mp hv
 have hi:=dX.mp hi
 have hr:=d.le i hi
 have a:(R.getD i 0).toNat<P.length:=by omega
 refine⟨?_,(b i hi).sub (b _ a),(c i hi).sub (c _ a)⟩
 show V2 K 1 ((xg P.length F).getD i (0,0))
 rw[zp (show i<(xg P.length F).length by simp[xg];omega)]
 unfold xg
 rw[List.getElem_map]
 exact zgz h _
end
theorem WR{K:Nat}(a:Kd K){A:List Pl}(h6:A.length<=6)(h:∀v∈A,eV K v):Iz A A=some true:=by
 unfold Iz
 rw[aD Y8]
 refine zl A.length (λi (x:Int)=>x=(i:Int)) (λo=>o=some true) Oz rfl ?_ ?_
 .rintro i x g hi rfl hg
  have p:=h _ (aL hi)
  have s1:=a.s0 (B:=1) Uz
  have s2:=a.s1 (c:=4) (B:=360) Uz
  obtain⟨-,-,e1,-⟩:=wZ p.turn p.turn s1 s1
  obtain⟨-,-,-,e2⟩:=wZ p.at' p.at' s2 s2
  have e:RR A[i] A[i]=some true:=by
   unfold RR
   rw[e1,aH rfl,aA,aG rfl,e2,aH rfl]
   rfl
  rw[aG (zV hi),zu hi,aA,aA,e,aA,aD Y8,zo Oz,aA]
  exact hg _ rfl
 .rintro x g rfl
  rw[aD Y8]
section
variable{n K:Nat}{X:List Bd}(hK:Kd K)(hn:0<n/\n<=4)(hg:SF K n 60 X){xs:List Rat}(hl:xs.length=n)(hx:∀v,v<n->QV (K*4) 360 (fx xs v))
include hK hn hg hl hx
theorem WM:∃b:Bool,Ck (n:Int) X xs []=some (if b=true then 0 else 22)/\(b=true↔eu (X.map bU) (fx xs)):=by
 have hX:=hg.1
 have key:∃b:Bool,BY ((n:Int),X) xs=some b/\(b=true↔eu (X.map bU) (fx xs)):=by
  unfold BY
  rw[aG (aH (by show(xs.length:Int)=n;omega))]
  refine zl X.length (λi x=>x=(i:Int)/\∀c∈X.take i,fx xs (bU c).to<=fx xs (bU c).fr+(bU c).m) (λo=>∃b:Bool,o=some b/\(b=true↔eu (X.map bU) (fx xs))) Oz ⟨rfl,λc hc=>by simp at hc⟩ ?_ ?_
  .rintro i x g hi ⟨rfl,hs⟩ k
   obtain⟨⟨h1,h2⟩,⟨r,h4⟩,s⟩:=hg.2 _ (aL hi)
   obtain⟨f,hf⟩:=Int.eq_ofNat_of_zero_le h1
   obtain⟨t,l⟩:=Int.eq_ofNat_of_zero_le r
   have p:=hx f Oz
   have q:=hx t Oz
   have s1:=hK.s1 (c:=4) (B:=720) Uz
   have a:(bU X[i]).fr=f:=by show X[i].1.toNat=f;rw[hf];rfl
   have j:(bU X[i]).to=t:=by show X[i].2.1.toNat=t;rw[l];rfl
   have em:(bU X[i]).m=X[i].2.2:=rfl
   rw[aG (zV hi),zu hi,aA]
   simp only[hf,l]
   rw[Qb (show t<xs.length by omega),aA,Qb (show f<xs.length by omega),aA,vA ((q.le (show 360<=720 by decide)).sm s1) ((p.le (show 360<=720 by decide)).sm s1),aA,yW (((q.sub p).le (show 360+360<=720 by decide)).sm s1) ((s.le (show 60<=720 by decide)).sm s1),aA]
   by_cases c:X[i].2.2<fx xs t-fx xs f
   .rw[aG (aH (cN.mpr c)),show decide ((0:Int)<=(i:Int))=true from aH Oz]
    refine⟨false,rfl,λh=>(nomatch h),λh=>?_⟩
    have:=h _ (eY (aL hi))
    rw[a,j,em]at this
    exact absurd c (Rat.not_lt.mpr (by grind))
   .rw[aD (by rw[aC];exact λh=>c (cN.mp h)),zo Oz,aA]
    refine k _ ⟨rfl,λd hd=>?_⟩
    rw[yY hi,aW,bC]at hd
    rcases hd with hd|rfl
    .exact hs d hd
    .rw[a,j,em]
     have:=Rat.not_lt.mp c
     grind
  .rintro x g ⟨rfl,hs⟩
   rw[aD Y8]
   rw[bE]at hs
   refine⟨true,rfl,λ_ c hc=>?_,λ_=>rfl⟩
   obtain⟨e,he,rfl⟩:=List.mem_map.mp hc
   exact hs e he
 obtain⟨b,e1,e2⟩:=key
 refine⟨b,?_,e2⟩
 unfold Ck
 rw[zhf hn hg.1 hg.2]
 simp only[aA,eJ,aV,cK,List.length_nil]
 rw[aG Uz,e1]
 simp only[aA]
 cases b
 .rw[aD Uz,aD (by simp only[aC];omega),aD Uz]
 .rw[aG rfl,aG rfl]
end
def df(A:List Pl):List Q2:=A.map (·.1)
def mJ(A:List Pl):List Rat:=A.map (·.2.1)
def mK(A:List Pl):List Rat:=A.map (·.2.2)
structure fK(P:List Pc)(F:List Fq)(A:List Pl):Prop where
 ok:eD P F=true
 root:∀i (hi:i<A.length),(xG P.length F).getD i 0=(i:Int)->A[i].1=zU/\A[i].2=(0,0)
 fit:∀f∈F,q6 (df A) f.2.1=aft (q6 (df A) f.1) f.2.2.2.2.2.1
 sx:eu ((Yb P (df A) F).map bU) (fx (mJ A))
 sy:eu ((Xb P (df A) F).map bU) (fx (mK A))
section
variable{P:List Pc}{F:List Fq}{K:Nat}(h:cr P F K){A:List Pl}(hl:A.length=P.length)(hA:∀v∈A,eV K v)(hu:∀v∈A,Wp v.1=true)
include h hl hA hu
theorem VP:(fK P F A->fC P F A=some (if kE P (xG P.length F) A=true then 13 else 0))/\(¬fK P F A->∃e,fC P F A=some e/\e≠0/\e≠13):=by
 have s:=h.k
 have hn:=h.n
 have e1:=ZS h.fl h.tu rfl h.n.2 h.pc
 cases b:eD P F with
 |false=>
  refine⟨λc=>absurd c.ok (by rw[b];decide),λ_=>⟨1,?_,by decide,by decide⟩⟩
  unfold eD at b
  rw[b,aD Y8]at e1
  unfold fC
  rw[e1,aA,aG Y8]
 |true=>
 have u:=b
 unfold eD at u
 rw[u,aG rfl]at e1
 have ro:=KD b
 have lR:=ro.len
 have G:=sV h b
 generalize S:xG P.length F=R at *
 have rR:∀i (hi:i<R.length),0<=R[i]/\R[i]<P.length:=λi hi=>by
  have:=ro.le i Oz
  rw[zp hi]at this
  exact⟨this.1,by omega⟩
 have O:∀i (hi:i<A.length),RQ A[i]=some false:=λi hi=>by
  have p:=hA _ (aL hi)
  obtain⟨h1,-⟩:=Kn s ⟨p.turn.1.le (show 1<=12 by decide),p.turn.2.le (show 1<=12 by decide)⟩
  unfold RQ
  rw[h1,hu _ (aL hi)]
  rfl
 have lens:∀{α:Type} {f:Pl->α} (i:Nat),((A.take i).map f).length+1<=60000:=λ{α f} i=>by rw[bI,bX];omega
 have snoc:∀{α:Type} (f:Pl->α) (i:Nat) (hi:i<A.length),(A.take i).map f++[f A[i]]=(A.take (i+1)).map f:=λf i hi=>by rw[yY hi,List.map_append];rfl
 have V:=s.s0 (B:=1) Uz
 have s4:=s.s1 (c:=4) (B:=360) Uz
 have I:SB 1 1:=⟨by decide,by decide⟩
 have r:V2 1 1 (qI 1,0):=⟨QV.int Uz,QV.int (n:=0) Uz⟩
 have zero:V2 1 1 (0,0):=⟨QV.int (n:=0) Uz,QV.int (n:=0) Uz⟩
 have qst:(qI 1,(0:Rat))=zU:=rfl
 have H:=Oq b
 have tl:(df A).length=P.length:=by rw[df,bI];exact hl
 have tm:∀t∈df A,V2 K 1 t:=λt h=>by
  obtain⟨v,hv,rfl⟩:=List.mem_map.mp h
  exact(hA v hv).turn
 obtain⟨L,gX,gY⟩:=JI s rfl h.pc tl tm h.fl H
 have E:∀v,v<P.length->QV (K*4) 360 (fx (mJ A) v)/\QV (K*4) 360 (fx (mK A) v):=λv hv=>by
  have C:v<A.length:=by omega
  unfold fx mJ mK
  rw[zp (by rw[bI];exact C),zp (by rw[bI];exact C),List.getElem_map,List.getElem_map]
  exact(hA _ (aL C)).at'
 obtain⟨Z,p1,T⟩:=WM s hn gX (xs:=mJ A) (by rw[mJ,bI];exact hl) λv hv=>(E v hv).1
 obtain⟨b2,p2,U⟩:=WM s hn gY (xs:=mK A) (by rw[mK,bI];exact hl) λv hv=>(E v hv).2
 have ec:=zdv s hn.2 rfl hl lR (λi hi=>rR i Oz) h.pc hA
 -- what is left to show of a result
 let Q:Option Int->Prop:=λo=>(fK P F A->o=some (if kE P R A=true then 13 else 0))/\(¬fK P F A->∃e,o=some e/\e≠0/\e≠13)
 have bad:∀{e:Int},e≠0->e≠13->¬fK P F A->Q (some e):=λh0 h1 hc=>⟨λc=>absurd c hc,λ_=>⟨_,rfl,h0,h1⟩⟩
 show Q (fC P F A)
 unfold fC
 rw[e1,aA,aD Y8,aD (by simp only[aC];omega)]
 refine zl A.length (λi x=>x=(i:Int)) Q Oz rfl ?_ ?_
 .rintro i x g hi rfl hg
  rw[aG (zV hi),zu hi,aA,O i hi,aA,aD Uz,zo (show i<100000 by omega),aA]
  exact hg _ rfl
 rintro x g rfl
 rw[aD Y8,G,aA]
 refine zl A.length (λi x=>x=((i:Int),(A.take i).map (·.1),(A.take i).map (·.2.1),(A.take i).map (·.2.2))/\∀j (hj:j<A.length),j<i->R.getD j 0=(j:Int)->A[j].1=zU/\A[j].2=(0,0)) Q Oz ⟨rfl,λj _ hj=>by omega⟩ ?_ ?_
 .rintro i x g hi ⟨rfl,z⟩ hg
  have w:i<R.length:=by omega
  have pl:=hA _ (aL hi)
  obtain⟨f1,-,-,-⟩:=wZ pl.turn r V I
  obtain⟨-,f2,-,-⟩:=wZ pl.at' zero s4 I
  rw[aG (zV hi),zu hi,aA,zu w,aA]
  have next:(R[i]=(i:Int)->A[i].1=zU/\A[i].2=(0,0))->Q (g (((i+1:Nat):Int),(A.take (i+1)).map (·.1),(A.take (i+1)).map (·.2.1),(A.take (i+1)).map (·.2.2))):=λh1=>hg _ ⟨rfl,λj hj hji D=>by
   by_cases c:j=i
   .subst c
    rw[zp w]at D
    exact h1 D
   .exact z j hj Oz D⟩
  by_cases c:R[i]=(i:Int)
  .have rt:fK P F A->A[i].1=zU/\A[i].2=(0,0):=λq=>q.root i hi (by rw[S,zp w];exact c)
   rw[aG (aH c),eH.1,aA,f1,aA]
   by_cases h1:A[i].1=(qI 1,0)
   .rw[aH h1,aD Uz,f2,aA]
    by_cases h2:A[i].2=(0,0)
    .rw[aH h2,aD Uz,yP (lens i),aA,yP (lens i),aA,yP (lens i),aA,zo (show i<100000 by omega),aA,snoc (·.1) i hi,snoc (·.2.1) i hi,snoc (·.2.2) i hi]
     exact next λ_=>⟨h1,h2⟩
    .rw[aX h2,aG Uz]
     exact bad Uz Uz λq=>h2 (rt q).2
   .rw[aX h1,aG Uz]
    exact bad Uz Uz λq=>h1 (rt q).1
  .rw[aD (by simp only[aC];exact c),yP (lens i),aA,yP (lens i),aA,yP (lens i),aA,zo (show i<100000 by omega),aA,snoc (·.1) i hi,snoc (·.2.1) i hi,snoc (·.2.2) i hi]
   exact next λh=>absurd h c
 rintro x g ⟨rfl,z⟩
 rw[aD Y8]
 simp only[bE]
 refine zl F.length (λi x=>x=(i:Int)/\∀f∈F.take i,q6 (df A) f.2.1=aft (q6 (df A) f.1) f.2.2.2.2.2.1) Q (by have:=h.fl;omega) ⟨rfl,λf hf=>by simp at hf⟩ ?_ ?_
 .rintro i x g hi ⟨rfl,l⟩ hg
  have hi6:=h.fl
  have y:=aL hi
  have m:=H _ y
  obtain⟨d,hd,M,-⟩:=h.tu _ y
  have ia:ae (A.map (·.1)) F[i].1=some (q6 (df A) F[i].1):=by
   have a0:=m.a0;have ab:=m.ab;have bn:=m.bn
   obtain⟨a,ha⟩:=Int.eq_ofNat_of_zero_le a0
   rw[ha]
   exact xm V4
  have ib:ae (A.map (·.1)) F[i].2.1=some (q6 (df A) F[i].2.1):=by
   have a0:=m.a0;have ab:=m.ab;have bn:=m.bn
   obtain⟨a,ha⟩:=Int.eq_ofNat_of_zero_le (show 0<=F[i].2.1 by omega)
   rw[ha]
   exact xm V4
  have mem:∀v:Int,0<=v->v<(P.length:Int)->V2 K 1 (q6 (df A) v):=λv h0 h1=>by
   unfold q6
   rw[zp (show v.toNat<(df A).length by omega)]
   exact tm _ (aL _)
  have ma:=mem F[i].1 m.a0 (by have:=m.ab;have:=m.bn;omega)
  have mb:=mem F[i].2.1 (by have:=m.a0;have:=m.ab;omega) m.bn
  obtain⟨W,-,X,Y⟩:=zdW s hd ma M
  obtain⟨J,-,-,-⟩:=wZ mb X V Y
  rw[aG (zV hi)]
  simp only[zu hi,aA,ia,ib,W,J,zo (show i<100000 by omega)]
  by_cases c:q6 (df A) F[i].2.1=yx (q6 (df A) F[i].1) F[i].2.2.2.2.2.1
  .rw[aH c,aD Uz]
   refine hg _ ⟨rfl,λf hf=>?_⟩
   rw[yY hi,aW,bC]at hf
   rcases hf with hf|rfl
   .exact l f hf
   .exact c
  .rw[aX c,aG Uz]
   exact bad Uz Uz λq=>c (q.fit _ y)
 rintro x g ⟨rfl,l⟩
 rw[bE]at l
 rw[aD Y8]
 show Q ((FK P F (df A)).bind _)
 rw[L,aA,aG (aH Oz)]
 show Q ((Ck (P.length:Int) (Yb P (df A) F) (mJ A) []).bind _)
 rw[p1,aA]
 cases Z with
 |false=>exact bad Uz Uz λq=>by have:=T.mpr q.sx;cases this
 |true=>
  rw[aG rfl,aD Uz]
  show Q ((Ck (P.length:Int) (Xb P (df A) F) (mK A) []).bind _)
  rw[p2,aA]
  cases b2 with
  |false=>exact bad Uz Uz λq=>by have:=U.mpr q.sy;cases this
  |true=>
   rw[aG rfl,aD Uz,ec,aA]
   refine⟨λ_=>by cases kE P R A<;>rfl,λN=>absurd ⟨b,?_,l,T.mp rfl,U.mp rfl⟩ N⟩
   intro i hi D
   rw[S]at D
   exact z i hi hi D
end
section
variable{P:List Pc}{F:List Fq}{K:Nat}(h:cr P F K){A:List Pl}(hl:A.length=P.length)(hA:∀v∈A,eV K v)
include h hl hA
omit h hA in
theorem sd{i:Nat}(hi:i<P.length):q6 (df A) (i:Int)=(A[i]'Oz).1:=by
 unfold q6 df
 rw[Int.toNat_natCast,zp V4,List.getElem_map]
omit hA in
theorem se(hu:∀v∈A,Wp v.1=true)(c:fK P F A):(∃τ,tP F τ)/\xg P.length F=df A:=by
 have j:=KW c.ok
 have ro:=KD c.ok
 let τ:Int->Q2:=λv=>if 0<=v/\v<(P.length:Int)then q6 (df A) v else zU
 have un:∀i (hi:i<P.length),Un (q6 (df A) (i:Int)):=λi hi=>by
  rw[sd hl hi]
  have e:A[i].1.1*A[i].1.1+A[i].1.2*A[i].1.2=1:=cO (hu _ (aL (show i<A.length by omega)))
  exact e
 have hτ:tP F τ:=by
  refine⟨λv=>?_,λf hf=>?_⟩
  .show Un (if 0<=v/\v<(P.length:Int)then q6 (df A) v else zU)
   split
   .next g=>
    obtain⟨i,hi⟩:=Int.eq_ofNat_of_zero_le g.1
    rw[hi]
    exact un i Oz
   .exact Yr
  .obtain⟨a0,ab,bn⟩:=j f hf
   show(if 0<=f.2.1/\f.2.1<(P.length:Int)then q6 (df A) f.2.1 else zU)=aft (if 0<=f.1/\f.1<(P.length:Int)then q6 (df A) f.1 else zU) _
   rw[aG Oz,aG Oz]
   exact c.fit f hf
 have k:xg P.length F=df A:=by
  apply List.ext_getElem
  .simp[xg,df];omega
  .intro i hi hi'
   have hi:i<P.length:=by simpa[xg]using hi
   have l:=ro.le i hi
   obtain⟨r,b⟩:=Int.eq_ofNat_of_zero_le l.1
   have a:r<P.length:=by omega
   rw[show(xg P.length F)[i]=qY P.length F i by simp[xg],gN h.un hτ j hi]
   have e2:τ (i:Int)=q6 (df A) i:=aG Oz
   have e1:τ ((xG P.length F).getD i 0)=zU:=by
    rw[b,show τ ((r:Nat):Int)=q6 (df A) r from aG Oz,sd hl a]
    have d:(xG P.length F).getD r 0=(r:Int):=by
     have:=(ro.same i r hi a).mp (by rw[<-b];exact(ro.cn i hi).symm)
     rw[<-this,b]
    exact(c.root r Oz d).1
   rw[e1,e2,sd hl hi,show(df A)[i]=A[i].1 by simp[df]]
   exact gP _
 exact⟨⟨τ,hτ⟩,k⟩
omit hA in
theorem AB(hu:∀v∈A,Wp v.1=true)(c:fK P F A):JO P F:=by
 obtain⟨t,a⟩:=se h hl hu c
 refine⟨t,⟨fx (mJ A),?_⟩,⟨fx (mK A),?_⟩⟩
 .rw[a];exact du.mp c.sx
 .rw[a];exact dN.mp c.sy
end
section
variable{P:List Pc}{F:List Fq}{K:Nat}(h:cr P F K)
include h
theorem mv(ok:eD P F=true)(hf:∃τ,tP F τ){x y:List Rat}(n:Gg (Yb P (xg P.length F) F) P.length (K*4) x)(o:Gg (Xb P (xg P.length F) F) P.length (K*4) y)(hc:kE P (xG P.length F) (ef P.length (xG P.length F) (xg P.length F) x y)=false):fC P F (ef P.length (xG P.length F) (xg P.length F) x y)=some 0:=by
 obtain⟨τ,hτ⟩:=hf
 have c:=KW ok
 have ro:=KD ok
 have hl:(ef P.length (xG P.length F) (xg P.length F) x y).length=P.length:=by simp[ef]
 have hA:=Hv h ro n.num o.num
 have l:∀i,i<P.length->(xg P.length F).getD i (0,0)=qY P.length F i:=λi hi=>by
  rw[zp (show i<(xg P.length F).length by simp[xg];omega)]
  unfold xg
  rw[List.getElem_map,List.getElem_range]
 have hu:∀v∈ef P.length (xG P.length F) (xg P.length F) x y,Wp v.1=true:=by
  intro v hv
  obtain⟨i,hi,rfl⟩:=List.mem_map.mp hv
  have hi:=dX.mp hi
  dsimp only
  rw[l i hi]
  exact aH (BR h.un hτ c hi)
 have j:df (ef P.length (xG P.length F) (xg P.length F) x y)=xg P.length F:=by
  unfold df ef
  rw[List.map_map]
  show(List.range P.length).map _=(List.range P.length).map _
  exact List.map_congr_left λi hi=>l i (dX.mp hi)
 have ex:∀i,i<P.length->fx (mJ (ef P.length (xG P.length F) (xg P.length F) x y)) i=fx x i-fx x ((xG P.length F).getD i 0).toNat:=λi hi=>by
  unfold mJ ef
  rw[List.map_map]
  show List.getD _ i 0=_
  rw[zp (by simpa using hi),List.getElem_map,List.getElem_range]
  rfl
 have m:∀i,i<P.length->fx (mK (ef P.length (xG P.length F) (xg P.length F) x y)) i=fx y i-fx y ((xG P.length F).getD i 0).toNat:=λi hi=>by
  unfold mK ef
  rw[List.map_map]
  show List.getD _ i 0=_
  rw[zp (by simpa using hi),List.getElem_map,List.getElem_range]
  rfl
 have kp:∀{d e a b r:Rat},nh d e a b->nh d e (a-r) (b-r):=λhk=>by
  obtain⟨h1,h2⟩:=hk
  constructor<;>grind
 have g:=(VP h hl hA hu).1 ⟨ok,λi hi p=>?_,λf hf=>?_,?_,?_⟩
 .rw[hc,aD Uz]at g
  exact g
 .have hi:i<P.length:=by omega
  have q:(ef P.length (xG P.length F) (xg P.length F) x y)[i]=((xg P.length F).getD i (0,0),fx x i-fx x ((xG P.length F).getD i 0).toNat,fx y i-fx y ((xG P.length F).getD i 0).toNat):=by simp[ef]
  rw[q,p,Int.toNat_natCast,Rat.sub_self,Rat.sub_self]
  refine⟨?_,rfl⟩
  show(xg P.length F).getD i (0,0)=zU
  rw[l i hi,gN h.un hτ c hi,p]
  exact Y6 (hτ.1 _)
 .rw[j]
  obtain⟨a0,ab,bn⟩:=c f hf
  have at':∀v:Int,0<=v->v<(P.length:Int)->q6 (xg P.length F) v=qY P.length F v.toNat:=λv h0 h1=>by
   unfold q6
   rw[zp (show v.toNat<(xg P.length F).length by simp[xg];omega)]
   unfold xg
   rw[List.getElem_map,List.getElem_range]
  rw[at' _ Oz Oz,at' _ Oz Oz]
  exact sq h.un hτ c hf
 .rw[j]
  refine du.mpr λf hf k hk=>?_
  obtain⟨a0,ab,bn⟩:=c f hf
  rw[ex _ Oz,ex _ Oz,<-YC c hf]
  exact kp (du.mp n.sat f hf k hk)
 .rw[j]
  refine dN.mpr λf hf k hk=>?_
  obtain⟨a0,ab,bn⟩:=c f hf
  rw[m _ Oz,m _ Oz,<-YC c hf]
  exact kp (dN.mp o.sat f hf k hk)
end
structure ni(P P':List Pc):Prop where
 len:P'.length=P.length
 rim:∀j,(P'.getD j default).2.2.1=(P.getD j default).2.2.1
 pc:∀p∈P',bm p
theorem ky{α β:Type}{l:List α}{f:α->β}{j:Nat}{d:β}{e:α}(h:j<l.length):(l.map f).getD j d=f (l.getD j e):=by
 rw[zp (by rw[bI];exact h),List.getElem_map,zp h]
theorem OS(n:Nat):V2 1 1 (rq n):=vO (KE n)
theorem M6{n:Nat}{u:Int×Int}(hu:Nr 4 u):eV 1 (gr n u):=by
 have r:=V2.rot (OS ((4-n) % 4)) (kN hu)
 have a:V2 1 0 (0,0):=⟨QV.int (n:=0) Uz,QV.int (n:=0) Uz⟩
 have d:V2 1 8 (y5 (0,0) (yx (rq ((4-n) % 4)) (ah u))):=a.sub r
 have:=d.up (k:=4)
 exact⟨OS _,this.1.le Uz,this.2.le Uz⟩
theorem Ic(n:Nat):Wp (rq n)=true:=by
 obtain⟨d,h1,h2,a⟩:=Rh (KE n) Uz
 exact a
section
variable{P:List Pc}{F:List Fq}{A:List Pl}(hb:tR P F A){P':List Pc}(hP:ni P P')
include hb hP
theorem wA:cr P' F 1:=by
 obtain⟨w,h,x,y,b,r,t,l,hB,hp,hf⟩:=hb.bx
 have a:∀f∈F,fY f/\Tn 1 f.2.2.2.2.2.1:=λf g=>by
  obtain⟨i,k,ea,eb,-,-,-,-,q⟩:=hf f g
  exact q.ok
 have:=hb.n
 have:=hb.fl
 exact⟨by rw[hP.len];omega,hP.pc,by omega,λf g=>(a f g).1,zfa λf g=>(a f g).2,by decide⟩
theorem jf:eD P' F=true:=by
 obtain⟨w,h,x,y,b,r,t,l,hB,hp,hf⟩:=hb.bx
 unfold eD jn
 rw[aF,List.all_eq_true,List.all_eq_true,hP.len]
 refine⟨λf g=>?_,λf g=>?_⟩
 .obtain⟨i,k,ea,eb,h1,h2,a,c,q⟩:=hf f g
  exact aH Oz
 .obtain⟨i,k,ea,eb,h1,h2,a,c,q⟩:=hf f g
  obtain⟨na,nb,ua,ub,-,-,-,-,-,-,-,-,e⟩:=q.ex
  have e1:=q.ed
  unfold Qx
  rw[e]
  exact decide_eq_true ⟨by dsimp only;omega,by dsimp only;omega,by dsimp only;omega⟩
theorem Jj:∀j,j<P.length->(xG P'.length F).getD j 0=0:=by
 have a:=KW (jf hb hP)
 have ro:=KD (jf hb hP)
 intro j
 induction j using Nat.strongRecOn with
 |ind j b=>
  intro hj
  by_cases c:j=0
  .subst c
   have:=ro.le 0 (by rw[hP.len];exact hj)
   omega
  .obtain⟨f,hf,e1,e2,e3⟩:=hb.cn j Oz hj
   have:=YC a hf
   rw[e1,Int.toNat_natCast]at this
   rw[<-this]
   exact b _ Oz Oz
omit hP in
theorem YL:∀v∈A,eV 1 v/\Wp v.1=true:=by
 obtain⟨w,h,x,y,b,r,t,l,hB,hp,hf⟩:=hb.bx
 intro v hv
 obtain⟨j,hj,rfl⟩:=List.getElem_of_mem hv
 have a:j<P.length:=by have:=hb.al;omega
 obtain⟨n,u,h1,h2,-,-,-,-,e⟩:=(hp j a).ex
 rw[zp hj]at e
 rw[e]
 exact⟨M6 h2,Ic _⟩
theorem Vg:∀f∈F,∀k,k<=bj f->fp P' (df A) f k=y5 (A.getD f.2.1.toNat default).2 (A.getD f.1.toNat default).2:=by
 obtain⟨w,h,x,y,b,r,t,l,hB,hp,hf⟩:=hb.bx
 intro f g k hk
 obtain⟨i,j,ea,eb,hij,hj,e1,e2,q⟩:=hf f g
 obtain⟨na,nb,a,c,ha,d,va,vb,B,C,pa,pb,ex⟩:=q.ex
 obtain⟨he,he'⟩:=q.ed
 have al:=hb.al
 have hk:k<2:=by
  unfold bj at hk
  rw[ex]at hk
  have:k<=(1:Int).toNat:=hk
  have:(1:Int).toNat=1:=rfl
  omega
 have t1:q6 (df A) f.1=rq ((4-na) % 4):=by
  unfold q6 df
  rw[e1,Int.toNat_natCast,zp (show i<(A.map (·.1)).length by rw[bI];omega),List.getElem_map]
  rw[zp (show i<A.length by omega)]at pa
  rw[pa]
  rfl
 have t2:q6 (df A) f.2.1=rq ((4-nb) % 4):=by
  unfold q6 df
  rw[e2,Int.toNat_natCast,zp (show j<(A.map (·.1)).length by rw[bI];omega),List.getElem_map]
  rw[zp (show j<A.length by omega)]at pb
  rw[pb]
  rfl
 have z:=vH (w:=w) (h:=h) (x:=x) (y:=y) (b:=b) (r:=r) (t:=t) (l:=l) (i:=i) (by have:=hb.n;omega)
 have m:=vH (w:=w) (h:=h) (x:=x) (y:=y) (b:=b) (r:=r) (t:=t) (l:=l) (i:=j) (by have:=hb.n;omega)
 have c1:ER (YF P' f.1) (f.2.2.1+k)=ah (bz na a (((kX w h x y b r t l).getD i []).getD ((ea+k) % 4) (0,0))):=by
  unfold ER YF
  rw[e1,Int.toNat_natCast,hP.rim,B,ex]
  show ah ((List.map (bz na a) _).getD (Int.tmod ((ea:Int)+k) 4).toNat (0,0))=_
  rw[show(Int.tmod ((ea:Int)+k) 4).toNat=(ea+k) % 4 by rw[Int.tmod_eq_emod_of_nonneg Oz];omega,ky (e:=(0,0)) (by rw[z];omega)]
 have o:ER (YF P' f.2.1) (f.2.2.2.1+1-k+4)=ah (bz nb c (((kX w h x y b r t l).getD j []).getD ((eb+1-k) % 4) (0,0))):=by
  unfold ER YF
  rw[e2,Int.toNat_natCast,hP.rim,C,ex]
  show ah ((List.map (bz nb c) _).getD (Int.tmod ((eb:Int)+1-k+4) 4).toNat (0,0))=_
  rw[show(Int.tmod ((eb:Int)+1-k+4) 4).toNat=(eb+1-k) % 4 by rw[Int.tmod_eq_emod_of_nonneg Oz];omega,ky (e:=(0,0)) (by rw[m];omega)]
 have s:((kX w h x y b r t l).getD i []).getD ((ea+k) % 4) (0,0)=((kX w h x y b r t l).getD j []).getD ((eb+1-k) % 4) (0,0):=by
  have:k=0\/k=1:=by omega
  rcases this with rfl|rfl
  .rw[show(ea+0) % 4=ea by omega,show(eb+1-0) % 4=(eb+1) % 4 by omega];exact q.one.1
  .rw[show(eb+1-1) % 4=eb by omega];exact q.one.2
 unfold fp
 rw[c1,o,t1,t2,s,e1,e2,Int.toNat_natCast,Int.toNat_natCast,pa,pb]
 generalize ((kX w h x y b r t l).getD j []).getD ((eb+1-k) % 4) (0,0)=p
 have u1:=R7 ha a p
 have u2:=R7 d c p
 have h1:=congrArg Prod.fst u1
 have h2:=congrArg Prod.snd u1
 have u:=congrArg Prod.fst u2
 have v:=congrArg Prod.snd u2
 have w1:(yx (rq ((4-na) % 4)) (ah (bz na a p))).1+(gr na a).2.1=(ah p).1:=h1
 have w2:(yx (rq ((4-na) % 4)) (ah (bz na a p))).2+(gr na a).2.2=(ah p).2:=h2
 have w3:(yx (rq ((4-nb) % 4)) (ah (bz nb c p))).1+(gr nb c).2.1=(ah p).1:=u
 have w4:(yx (rq ((4-nb) % 4)) (ah (bz nb c p))).2+(gr nb c).2.2=(ah p).2:=v
 unfold y5
 refine Prod.ext ?_ ?_<;>dsimp only<;>grind
end
section
variable{q q':List (Int×Int)}(hq:q.length=4)(hq':q'.length=4){pa pb:Pc}{va vb:Pl}{ea eb:Nat}{f:Fq}
include hq hq'
theorem B2(d:bm pa)(h:bm pb)(hf:fD q q' pa pb va vb ea eb f):sL pa pb (ea:Int) (eb:Int)=some (f.2.2.2.2.2.1,true):=by
 obtain⟨na,nb,c,a,ha,hb,v1,v2,m,n,-,-,e⟩:=hf.ex
 obtain⟨h1,h2⟩:=hf.ed
 obtain⟨B,C⟩:=hf.one
 obtain⟨la,-⟩:=qB d
 obtain⟨lb,-⟩:=qB h
 have w:f.2.2.2.2.2.1=fv na nb:=by rw[e]
 have o:=zgq d h1
 have p:=zgq h h2
 have r:=zgp d h1
 have tb:=zgp h h2
 obtain⟨-,l⟩:=Yi d h1
 obtain⟨-,j⟩:=Yi h h2
 have ne:=Ar d h1
 have a0:pa.2.2.1.getD ea (0,0)=bz na c (q.getD ea (0,0)):=by rw[m];exact ky Oz
 have t:pa.2.2.1.getD ((ea+1) % 4) (0,0)=bz na c (q.getD ((ea+1) % 4) (0,0)):=by rw[m];exact ky Oz
 have u:pb.2.2.1.getD eb (0,0)=bz nb a (q.getD ((ea+1) % 4) (0,0)):=by rw[n,C];exact ky Oz
 have v:pb.2.2.1.getD ((eb+1) % 4) (0,0)=bz nb a (q.getD ea (0,0)):=by rw[n,B];exact ky Oz
 rw[a0,t]at o r l ne
 rw[u,v]at p tb j
 have f0:=RZ ha hb c a (q.getD ea (0,0))
 have f1:=RZ ha hb c a (q.getD ((ea+1) % 4) (0,0))
 generalize q.getD ea (0,0)=b at *
 generalize q.getD ((ea+1) % 4) (0,0)=p1 at *
 have i:zX (zL (bz nb a p1) (bz nb a b)) (zL (bz nb a p1) (bz nb a b))=zX (zL (bz na c p1) (bz na c b)) (zL (bz na c p1) (bz na c b)):=by rw[oE,oE]
 have z:zX (zL (bz nb a b) (bz nb a p1)) (zL (bz nb a b) (bz nb a p1))=zX (zL (bz nb a p1) (bz nb a b)) (zL (bz nb a p1) (bz nb a b)):=by unfold zX zL;grind
 have A:Nr 24 (zL (bz nb a p1) (bz nb a b)):=by
  obtain⟨k,x2⟩:=j
  unfold zL at k x2 |-
  dsimp only at k x2
  exact⟨by dsimp only;omega,by dsimp only;omega⟩
 have hv:ah (zL (bz na c p1) (bz na c b))=yx (fv na nb) (ah (zL (bz nb a p1) (bz nb a b))):=by
  have s:∀x y:Int×Int,ah (zL x y)=y5 (ah x) (ah y):=λx y=>Prod.ext (Rat.intCast_sub ..) (Rat.intCast_sub ..)
  rw[s,s,BF]
  have k1:=congrArg Prod.fst f0
  have k2:=congrArg Prod.snd f0
  have k3:=congrArg Prod.fst f1
  have k4:=congrArg Prod.snd f1
  unfold y5 at *
  dsimp only at *
  refine Prod.ext ?_ ?_<;>dsimp only<;>grind
 have al:=B8 A l hv i (by rw[i];exact ne)
 have m1:Rat.divInt (-1) 1 = -1:=by decide +kernel
 have e1:dh (-1) 1=some (Rat.divInt (-1) 1):=zeN Uz ⟨by decide,by decide⟩
 have g:Sm (Rat.divInt (-1) 1):=by decide
 have e2:I1 (ah (zL (bz nb a b) (bz nb a p1))) (Rat.divInt (-1) 1)=some (ah (zL (bz nb a p1) (bz nb a b))):=by
  obtain⟨k,x2⟩:=j
  unfold I1
  have s1:Sm (ah (zL (bz nb a b) (bz nb a p1))).1:=Xm Oz
  have s2:Sm (ah (zL (bz nb a b) (bz nb a p1))).2:=Xm Oz
  rw[xK s1 g,aA,xK s2 g,aA,m1]
  unfold ah zL qI
  dsimp only
  refine congrArg some (Prod.ext ?_ ?_)<;>dsimp only<;>rw[Rat.intCast_sub,Rat.intCast_sub]<;>grind
 unfold sL
 rw[la,lb,aD (by simp only[aC];omega),aD (by simp only[aC];omega),aD (by simp only[aC];omega),aD (by simp only[aC];omega),o,aA,p,aA,z,i,aD Y8,tb,aA,e1,aA,e2,aA,r,aA,al,aA,w]
 rfl
theorem IH(a:bm pa)(b:bm pb)(hf:fD q q' pa pb va vb ea eb f):RT pa pb f=some [f.2.2.2.2.2.1]:=by
 unfold RT
 rw[zgr a b hf,aA]
 refine zl 1 (λk x=>x=((k:Int),if k=0 then []else [f.2.2.2.2.2.1])) (λo=>o=_) Oz rfl ?_ ?_
 .rintro k x g hk rfl hg
  obtain rfl:k=0:=by omega
  have c:ae [((ea:Int),(eb:Int))] ((0:Nat):Int)=some ((ea:Int),(eb:Int)):=rfl
  rw[aG (show decide (((0:Nat):Int)<([((ea:Int),(eb:Int))].length:Int))=true from rfl),c,aA]
  show((sL pa pb (ea:Int) (eb:Int)).bind _)=_
  rw[B2 hq hq' a b hf,aA,aG rfl]
  show((app [] [f.2.2.2.2.2.1]).bind _)=_
  rw[yP Y8,aA,zo (show 0<100000 by omega),aA]
  exact hg _ rfl
 .rintro x g rfl
  rw[aD (show ¬decide (((1:Nat):Int)<([((ea:Int),(eb:Int))].length:Int))=true by simp)]
  rfl
end
section
variable{P:List Pc}{F:List Fq}{A:List Pl}(hb:tR P F A){P':List Pc}(hP:ni P P')
include hb hP
omit hb in
theorem Vf{j:Nat}(hj:j<P.length):0<=(P'.getD j default).2.2.2.2.2.1:=by
 have a:j<P'.length:=by rw[hP.len];exact hj
 rw[zp a]
 exact(hP.pc _ (aL a)).tol.2
theorem pn:∀f∈F,0<=wn P' f:=λf hf=>by
 obtain⟨a0,ab,bn⟩:=KW (jf hb hP) f hf
 rw[hP.len]at bn
 have h1:=Vf hP (j:=f.1.toNat) Oz
 have h2:=Vf hP (j:=f.2.1.toNat) Oz
 unfold wn YF
 grind
omit hP in
theorem SE{j:Nat}(hj:j<P.length):fx (mJ A) j=(A.getD j default).2.1/\fx (mK A) j=(A.getD j default).2.2:=by
 have:=hb.al
 unfold fx mJ mK
 exact⟨ky Oz,ky Oz⟩
theorem Vh:fK P' F A:=by
 obtain⟨w,h,x,y,b,r,t,l,hB,hp,hf⟩:=hb.bx
 have c:=KW (jf hb hP)
 have al:=hb.al
 refine⟨jf hb hP,λi hi d=>?_,λf a=>?_,?_,?_⟩
 .rw[Jj hb hP i Oz]at d
  obtain rfl:i=0:=by omega
  obtain⟨n,u,-,-,h0,-,-,-,e⟩:=(hp 0 Oz).ex
  obtain⟨rfl,rfl⟩:=h0 rfl
  rw[zp hi]at e
  rw[e]
  exact⟨rfl,by decide +kernel⟩
 .obtain⟨i,j,ea,eb,hij,hj,e1,e2,q⟩:=hf f a
  obtain⟨na,nb,ua,ub,ha,hbn,va,vb,ra,rb,pa,pb,ex⟩:=q.ex
  have t1:q6 (df A) f.1=rq ((4-na) % 4):=by
   unfold q6 df
   rw[e1,Int.toNat_natCast,ky (e:=default) Oz,pa]
   rfl
  have t2:q6 (df A) f.2.1=rq ((4-nb) % 4):=by
   unfold q6 df
   rw[e2,Int.toNat_natCast,ky (e:=default) Oz,pb]
   rfl
  rw[t1,t2,ex]
  show rq ((4-nb) % 4)=aft (rq ((4-na) % 4)) (fv na nb)
  unfold fv
  rw[<-xQ,zbr (J9 ha).2.1,gP]
 .refine du.mpr λf a k hk=>?_
  obtain⟨a0,ab,bn⟩:=c f a
  rw[hP.len]at bn
  have e:=pn hb hP f a
  rw[Vg hb hP f a k hk,(SE hb Oz).1,(SE hb Oz).1]
  unfold y5
  constructor<;>dsimp only<;>grind
 .refine dN.mpr λf a k hk=>?_
  obtain⟨a0,ab,bn⟩:=c f a
  rw[hP.len]at bn
  have e:=pn hb hP f a
  rw[Vg hb hP f a k hk,(SE hb Oz).2,(SE hb Oz).2]
  unfold y5
  constructor<;>dsimp only<;>grind
theorem zhh(R:List Int):kE P' R A=false:=by
 obtain⟨w,h,x,y,b,r,t,l,c,hp,hf⟩:=hb.bx
 refine n3 c (by rw[hP.len];exact hb.n.2) (by rw[hP.len];exact hb.al) λj hj=>?_
 rw[hP.len]at hj
 obtain⟨n,u,h1,h2,-,a,-,-,e⟩:=(hp j hj).ex
 exact⟨Vf hP hj,n,u,h1,by rw[hP.rim];exact a,e⟩
theorem Vi:fC P' F A=some 0:=by
 have hc:=wA hb hP
 have:=(VP hc (by rw[hP.len];exact hb.al) (λv hv=>(YL hb v hv).1) λv hv=>(YL hb v hv).2).1 (Vh hb hP)
 rw[this,zhh hb hP,aD Uz]
theorem Jk:JO P' F:=AB (wA hb hP) (by rw[hP.len];exact hb.al) (λv hv=>(YL hb v hv).2) (Vh hb hP)
theorem zcN:xg P'.length F=df A:=(se (wA hb hP) (by rw[hP.len];exact hb.al) (λv hv=>(YL hb v hv).2) (Vh hb hP)).2
theorem zeY:∃B c e,eP P' F=some (B,c,e)/\(e=13\/e=0/\fC P' F B=some 0):=by
 cases QM (wA hb hP)with
 |arg a=>rw[jf hb hP]at a;cases a
 |bad c a d=>exact absurd (Jk hb hP) d
 |ok x y a d f g b=>
  cases hc:kE P' (xG P'.length F) (ef P'.length (xG P'.length F) (xg P'.length F) x y)
  .rw[hc,aD Y8]at b
   exact⟨_,_,_,b,.inr ⟨rfl,mv (wA hb hP) a d.1 f g hc⟩⟩
  .rw[hc,aG rfl]at b
   exact⟨_,_,_,b,.inl rfl⟩
end
section
variable{P:List Pc}{F:List Fq}{A:List Pl}(hb:tR P F A){P':List Pc}(hP:ni P P')(h0:∀j,j<P.length->(P'.getD j default).2.2.2.2.2.1=0)
include hb hP h0
theorem oS{x y:List Rat}(hx:nt P' (xg P'.length F) F (fx x))(s:nu P' (xg P'.length F) F (fx y)):∀j,j<P.length->fx x j-fx x 0=(A.getD j default).2.1/\fx y j-fx y 0=(A.getD j default).2.2:=by
 have q:=KW (jf hb hP)
 have o:=zcN hb hP
 intro j
 induction j using Nat.strongRecOn with
 |ind j v=>
  intro hj
  by_cases c:j=0
  .subst c
   obtain⟨w,h,x,y,b,r,t,l,hB,hp,hf⟩:=hb.bx
   obtain⟨n,u,-,-,g0,-,-,-,e⟩:=(hp 0 hj).ex
   obtain⟨rfl,rfl⟩:=g0 rfl
   have z:(gr 0 (0,0)).2=(0,0):=by decide +kernel
   rw[e,z]
   exact⟨Rat.sub_self,Rat.sub_self⟩
  .obtain⟨f,hf,e1,e2,e3⟩:=hb.cn j Oz hj
   have p:wn P' f=0:=by
    obtain⟨a0,ab,bn⟩:=q f hf
    rw[hP.len]at bn
    unfold wn YF
    rw[h0 _ Oz,h0 _ Oz,Rat.add_zero]
   obtain⟨i,hi⟩:=Int.eq_ofNat_of_zero_le e2
   have d:=Vg hb hP f hf 0 (cH _)
   obtain⟨a,g⟩:=hx f hf 0 (cH _)
   obtain⟨k,m⟩:=s f hf 0 (cH _)
   rw[o,d,p,e1,hi,Int.toNat_natCast,Int.toNat_natCast]at a g k m
   obtain⟨g1,g2⟩:=v i Oz Oz
   unfold y5 at a g k m
   dsimp only at a g k m
   constructor<;>grind
theorem zdi:eP P' F=some (A,[],0):=by
 have al:=hb.al
 cases QM (wA hb hP)with
 |arg a=>rw[jf hb hP]at a;cases a
 |bad c a b=>exact absurd (Jk hb hP) b
 |ok x y a b h i d=>
  have key:=oS hb hP h0 (du.mp h.sat) (dN.mp i.sat)
  have e:ef P'.length (xG P'.length F) (xg P'.length F) x y=A:=by
   apply List.ext_getElem
   .simp[ef,hP.len,al]
   .intro j h1 h2
    have hj:j<P.length:=by omega
    have e1:(ef P'.length (xG P'.length F) (xg P'.length F) x y)[j]=((xg P'.length F).getD j (0,0),fx x j-fx x ((xG P'.length F).getD j 0).toNat,fx y j-fx y ((xG P'.length F).getD j 0).toNat):=by simp[ef]
    obtain⟨f,g⟩:=key j hj
    rw[zp h2]at f g
    rw[e1,Jj hb hP j hj,zcN hb hP]
    show((df A).getD j (0,0),fx x j-fx x 0,fx y j-fx y 0)=A[j]
    rw[f,g]
    unfold df
    rw[ky (e:=default) h2,zp h2]
  rw[e,zhh hb hP,aD Uz]at d
  exact d
end
def en(n:Int):Pc:=(n,0,[(0,0),(2,0),(2,2),(0,2)],[false,false,false,false],[0,0,0,0],0,qI 1,qI 1,qI 100,Rat.divInt 1 2)
def de:List Pc:=[en 0,en 1,en 2,en 3]
def NX(a b ea eb:Int)(t:Rat×Rat):Fq:=(a,b,ea,eb,1,t,(0,0),0,0)
def ft(a b ea eb:Int):Fq:=NX a b ea eb (qI 1,0)
theorem O5{n:Int}(h0:0<=n)(h1:n<=999):bm (en n):=by
 refine⟨⟨(0,0),(2,0),(2,2),(0,2),rfl,⟨⟨by decide,by decide⟩,⟨by decide,by decide⟩,⟨by decide,by decide⟩,⟨by decide,by decide⟩⟩,by decide⟩,⟨h0,h1⟩,⟨Int.le_refl _,show(0:Int)<=4 by decide⟩,rfl,rfl,⟨Hy,dH⟩,⟨(QV.int (n:=1) (B:=10) Uz).up (k:=2),?_⟩,⟨(QV.int (n:=1) (B:=10) Uz).up (k:=2),dH⟩,rfl,rfl⟩
 exact ru (show(0:Int)<1 by decide)
theorem HO:∀p∈de,bm p:=by
 intro p hp
 simp only[de,aJ,aY,or_false]at hp
 rcases hp with rfl|rfl|rfl|rfl<;>exact O5 Uz Uz
theorem HZ:Tn 1 (qI 1,0):=eN
theorem BP:Tn 1 (0,Rat.divInt (-1) 1):=⟨1,0,-1,by omega,by omega,by decide,rfl,rfl⟩
theorem Ay{F:List Fq}(a:F.length<=6)(h:∀f∈F,xc f.1/\xc f.2.1/\Tn 1 f.2.2.2.2.2.1):cr de F 1:=
 ⟨⟨by decide,by decide⟩,HO,a,λf hf=>⟨(h f hf).1,(h f hf).2.1,(h f hf).2.2.le Uz⟩,zfa λf hf=>(h f hf).2.2,by decide⟩
theorem EV{a b ea eb:Int}{t:Rat×Rat}(ha:a.natAbs<100)(hb:b.natAbs<100)(c:Tn 1 t):xc (NX a b ea eb t).1/\xc (NX a b ea eb t).2.1/\Tn 1 (NX a b ea eb t).2.2.2.2.2.1:=⟨SK (show a.natAbs<_ by omega),SK (show b.natAbs<_ by omega),c⟩
def E1:List Fq:=[ft 0 1 1 3,ft 1 2 2 0,ft 2 3 3 1,ft 0 3 2 0]
def E2:List Fq:=[ft 0 1 1 3,ft 1 2 2 0,ft 2 3 3 1,NX 0 3 1 0 (0,Rat.divInt (-1) 1)]
def E3:List Fq:=[ft 0 1 1 3,ft 1 2 2 0,ft 2 3 3 1,ft 0 3 0 2]
def E4:List Fq:=[ft 0 1 1 3,ft 0 1 2 0]
def E5:List Fq:=[ft 0 1 1 3,ft 0 2 1 3]
theorem ce{F:List Fq}(a:F=E1\/F=E2\/F=E3\/F=E4\/F=E5):cr de F 1:=by
 refine Ay (by rcases a with rfl|rfl|rfl|rfl|rfl<;>decide) λf hf=>?_
 rcases a with rfl|rfl|rfl|rfl|rfl<;>simp only[E1,E2,E3,E4,E5,aJ,aY,or_false]at hf<;>(try rcases hf with rfl|rfl|rfl|rfl)<;>(try rcases hf with rfl|rfl)<;>first|exact EV Uz Uz HZ|exact EV Uz Uz BP
def vP:List Q2:=[zU,zU,zU,zU]
theorem gO{F:List Fq}(h:cr de F 1)(ok:eD de F=true)(hs:∀f∈F,f.2.2.2.2.2.1=zU):xg de.length F=vP/\(∃τ,tP F τ):=by
 have a:tP F λ_=>zU:=⟨λ_=>Yr,λf hf=>by rw[hs f hf,Zn]⟩
 refine⟨?_,_,a⟩
 have e:∀i,i<4->qY de.length F i=zU:=λi hi=>by
  rw[gN h.un a (KW ok) hi]
  exact Y6 Yr
 show [qY de.length F 0,qY de.length F 1,qY de.length F 2,qY de.length F 3]=_
 rw[e 0 Uz,e 1 Uz,e 2 Uz,e 3 Uz]
 rfl
theorem ph{L:List Bd}{of:List Int}{j:Int}{b:Nat->Rat}(h:∀i (hi:i<L.length),of.getD i 0≠j->b L[i].2.1.toNat<=b L[i].1.toNat+L[i].2.2):∀{w:List Int} {a v:Nat} {s:Rat},IW L a w v s->(∀x∈w,of.getD x.toNat 0≠j)->b v<=b a+s
 | [],a,v,s,⟨h1,h2⟩,_=>by rw[h1,h2,Rat.add_zero];exact dH
 |x::w,a,v,s,⟨i,e,hi,h1,s',h2,c⟩,hw=>by
  have g:=ph h c λy k=>hw y (aP _ k)
  have g2:=h i hi (by have:=hw x (aO ..);rw[e,Int.toNat_natCast]at this;exact this)
  rw[h1]at g2
  rw[h2]
  grind
theorem ot{L:List Bd}{n:Nat}{of c:List Int}(hc:nd L n of c){j:Int}(a:Nat->Rat)(h:∀i (hi:i<L.length),of.getD i 0≠j->a L[i].2.1.toNat<=a L[i].1.toNat+L[i].2.2):j∈c:=by
 obtain⟨w,⟨-,v,s,hw,hs⟩,hm,-⟩:=hc
 apply eB
 intro hj
 have:=ph h hw λx hx e=>hj ((hm j).mpr ⟨x,hx,e.symm⟩)
 grind
theorem zfC{L:List Bd}{n:Nat}{of c l:List Int}(hc:nd L n of c)(hL:L.length=of.length)(hl:l.Pairwise (·<·))(h1:∀y∈of,y∈l)(h2:∀j∈l,∃a:Nat->Rat,∀i (hi:i<L.length),of.getD i 0≠j->a L[i].2.1.toNat<=a L[i].1.toNat+L[i].2.2):c=l:=by
 have b:=hc
 obtain⟨w,⟨-,v,s,hw,hs⟩,hm,hp⟩:=hc
 refine WL hp hl λx=>⟨λhx=>?_,λhx=>?_⟩
 .obtain⟨y,e,rfl⟩:=(hm x).mp hx
  obtain⟨g0,g1⟩:=zfb hw y e
  rw[zp (show y.toNat<of.length by omega)]
  exact h1 _ (aL _)
 .obtain⟨a,h⟩:=h2 x hx
  exact ot b a h
section
variable{F:List Fq}{x:Nat->Rat}{f:Fq}{d:Rat×Rat}
theorem ZP(s:nt de vP F x)(hf:f∈F)(hd:fp de vP f 0=d)(a:wn de f=0):x f.2.1.toNat=x f.1.toNat+d.1:=by
 obtain⟨h1,h2⟩:=s f hf 0 (cH _)
 rw[hd,a]at h1 h2
 grind
theorem um(s:nu de vP F x)(hf:f∈F)(hd:fp de vP f 0=d)(a:wn de f=0):x f.2.1.toNat=x f.1.toNat+d.2:=by
 obtain⟨h1,h2⟩:=s f hf 0 (cH _)
 rw[hd,a]at h1 h2
 grind
end
def fk(a b c d:Rat)(v:Nat):Rat:=[a,b,c,d].getD v 0
def Gf(f:Fq)(d:Rat×Rat):Prop:=fp de vP f 0=d/\wn de f=0
theorem m5:Gf (ft 0 1 1 3) (2,0):=⟨by decide +kernel,by decide +kernel⟩
theorem Lj:Gf (ft 1 2 2 0) (0,2):=⟨by decide +kernel,by decide +kernel⟩
theorem f23:Gf (ft 2 3 3 1) (-2,0):=⟨by decide +kernel,by decide +kernel⟩
theorem RG:Gf (ft 0 3 2 0) (0,2):=⟨by decide +kernel,by decide +kernel⟩
theorem g03:Gf (ft 0 3 0 2) (0,-2):=⟨by decide +kernel,by decide +kernel⟩
theorem g01:Gf (ft 0 1 2 0) (0,2):=⟨by decide +kernel,by decide +kernel⟩
theorem RF:Gf (ft 0 2 1 3) (2,0):=⟨by decide +kernel,by decide +kernel⟩
def A1:List Pl:=[(zU,0,0),(zU,2,0),(zU,2,2),(zU,0,2)]
def A5:List Pl:=[(zU,0,0),(zU,2,0),(zU,2,0),(zU,0,0)]
theorem Zm{F:List Fq}(a:F=E1\/F=E3\/F=E4\/F=E5):∀f∈F,f.2.2.2.2.2.1=zU:=by
 intro f hf
 rcases a with rfl|rfl|rfl|rfl<;>simp only[E1,E3,E4,E5,aJ,aY,or_false]at hf<;>(try rcases hf with rfl|rfl|rfl|rfl)<;>(try rcases hf with rfl|rfl)<;>rfl
theorem TA:eP de E1=some (A1,[],0):=by
 have h:=ce (.inl rfl)
 have ok:eD de E1=true:=by decide +kernel
 obtain⟨e,hτ⟩:=gO h ok (Zm (.inl rfl))
 have hg:JO de E1:=⟨hτ,⟨fk 0 2 2 0,by rw[e];exact du.mp (show ∀c∈(Yb de vP E1).map bU,fk 0 2 2 0 c.to<=fk 0 2 2 0 c.fr+c.m by decide +kernel)⟩,⟨fk 0 0 2 2,by rw[e];exact dN.mp (show ∀c∈(Xb de vP E1).map bU,fk 0 0 2 2 c.to<=fk 0 0 2 2 c.fr+c.m by decide +kernel)⟩⟩
 cases QM h with
 |arg a=>rw[ok]at a;cases a
 |bad c a g=>exact absurd hg g
 |ok x y a g i j b=>
  rw[e]at i j b
  have sx:=du.mp i.sat
  have sy:=dN.mp j.sat
  have l:xG de.length E1=[0,0,0,0]:=by decide +kernel
  have x1:fx x 1=fx x 0+2:=ZP sx (f:=ft 0 1 1 3) (by simp[E1]) m5.1 m5.2
  have x2:fx x 2=fx x 1+0:=ZP sx (f:=ft 1 2 2 0) (by simp[E1]) Lj.1 Lj.2
  have x3:fx x 3=fx x 0+0:=ZP sx (f:=ft 0 3 2 0) (by simp[E1]) RG.1 RG.2
  have y1:fx y 1=fx y 0+0:=um sy (f:=ft 0 1 1 3) (by simp[E1]) m5.1 m5.2
  have y2:fx y 2=fx y 1+2:=um sy (f:=ft 1 2 2 0) (by simp[E1]) Lj.1 Lj.2
  have y3:fx y 3=fx y 0+2:=um sy (f:=ft 0 3 2 0) (by simp[E1]) RG.1 RG.2
  have p:ef de.length [0,0,0,0] vP x y=A1:=by
   show [(zU,fx x 0-fx x 0,fx y 0-fx y 0),(zU,fx x 1-fx x 0,fx y 1-fx y 0),(zU,fx x 2-fx x 0,fx y 2-fx y 0),(zU,fx x 3-fx x 0,fx y 3-fx y 0)]=_
   rw[show fx x 0-fx x 0=0 by grind,show fx y 0-fx y 0=0 by grind,show fx x 1-fx x 0=2 by grind,show fx y 1-fx y 0=0 by grind,show fx x 2-fx x 0=2 by grind,show fx y 2-fx y 0=2 by grind,show fx x 3-fx x 0=0 by grind,show fx y 3-fx y 0=2 by grind]
   rfl
  have k:kE de [0,0,0,0] A1=false:=by decide +kernel
  rw[l,p,k,aD Uz]at b
  exact b
theorem TE:eP de E5=some ([],[],13):=by
 have h:=ce (.inr (.inr (.inr (.inr rfl))))
 have ok:eD de E5=true:=by decide +kernel
 obtain⟨e,hτ⟩:=gO h ok (Zm (.inr (.inr (.inr rfl))))
 have hg:JO de E5:=⟨hτ,⟨fk 0 2 2 0,by rw[e];exact du.mp (show ∀c∈(Yb de vP E5).map bU,fk 0 2 2 0 c.to<=fk 0 2 2 0 c.fr+c.m by decide +kernel)⟩,⟨fk 0 0 0 0,by rw[e];exact dN.mp (show ∀c∈(Xb de vP E5).map bU,fk 0 0 0 0 c.to<=fk 0 0 0 0 c.fr+c.m by decide +kernel)⟩⟩
 cases QM h with
 |arg a=>rw[ok]at a;cases a
 |bad c a g=>exact absurd hg g
 |ok x y a g i j b=>
  rw[e]at i j b
  have sx:=du.mp i.sat
  have sy:=dN.mp j.sat
  have l:xG de.length E5=[0,0,0,3]:=by decide +kernel
  have x1:fx x 1=fx x 0+2:=ZP sx (f:=ft 0 1 1 3) (by simp[E5]) m5.1 m5.2
  have x2:fx x 2=fx x 0+2:=ZP sx (f:=ft 0 2 1 3) (by simp[E5]) RF.1 RF.2
  have y1:fx y 1=fx y 0+0:=um sy (f:=ft 0 1 1 3) (by simp[E5]) m5.1 m5.2
  have y2:fx y 2=fx y 0+0:=um sy (f:=ft 0 2 1 3) (by simp[E5]) RF.1 RF.2
  have p:ef de.length [0,0,0,3] vP x y=A5:=by
   show [(zU,fx x 0-fx x 0,fx y 0-fx y 0),(zU,fx x 1-fx x 0,fx y 1-fx y 0),(zU,fx x 2-fx x 0,fx y 2-fx y 0),(zU,fx x 3-fx x 3,fx y 3-fx y 3)]=_
   rw[show fx x 0-fx x 0=0 by grind,show fx y 0-fx y 0=0 by grind,show fx x 1-fx x 0=2 by grind,show fx y 1-fx y 0=0 by grind,show fx x 2-fx x 0=2 by grind,show fx y 2-fx y 0=0 by grind,show fx x 3-fx x 3=0 by grind,show fx y 3-fx y 3=0 by grind]
   rfl
  have k:kE de [0,0,0,3] A5=true:=by decide +kernel
  rw[l,p,k,aG rfl]at b
  exact b
theorem TB:eP de E2=some ([],[0,1,2,3],14):=by
 have ok:eD de E2=true:=by decide +kernel
 have hf:first (az E2) (dw E2) E2.length=some (3,[0,1,2]):=by decide +kernel
 cases Yw (ce (.inr (.inl rfl)))with
 |arg b=>rw[ok]at b;cases b
 |turn k r b a e=>
  rw[hf]at a
  cases a
  exact e
 |xs c b a=>rw[hf]at a;cases a
 |ys c b a=>rw[hf]at a;cases a
 |ok x y b a=>rw[hf]at a;cases a
theorem TC:eP de E3=some ([],[0,1,2,3],14):=by
 have h:=ce (.inr (.inr (.inl rfl)))
 have ok:eD de E3=true:=by decide +kernel
 obtain⟨i,hτ⟩:=gO h ok (Zm (.inr (.inl rfl)))
 have hf:=(Xz h.un).mpr hτ
 cases Yw h with
 |arg a=>rw[ok]at a;cases a
 |turn k r a b=>rw[hf]at b;cases b
 |xs c a b g=>exact absurd ⟨fk 0 2 2 0,by rw[i];exact du.mp (show ∀c∈(Yb de vP E3).map bU,fk 0 2 2 0 c.to<=fk 0 2 2 0 c.fr+c.m by decide +kernel)⟩ g
 |ys c a b g e n=>
  rw[i]at e
  rw[n,zfC (l:=[0,1,2,3]) e (by decide +kernel) Uz (by decide +kernel) λj hj=>?_]
  simp only[aJ,aY,or_false]at hj
  rcases hj with rfl|rfl|rfl|rfl
  .exact⟨fk 0 (-4) (-2) (-2),by decide +kernel⟩
  .exact⟨fk 0 0 (-2) (-2),by decide +kernel⟩
  .exact⟨fk 0 0 2 (-2),by decide +kernel⟩
  .exact⟨fk 0 0 2 2,by decide +kernel⟩
 |ok x y a b g e n=>
  rw[i]at e
  have sy:=dN.mp e.sat
  have y1:fx y 1=fx y 0+0:=um sy (f:=ft 0 1 1 3) (by simp[E3]) m5.1 m5.2
  have y2:fx y 2=fx y 1+2:=um sy (f:=ft 1 2 2 0) (by simp[E3]) Lj.1 Lj.2
  have y3:fx y 3=fx y 2+0:=um sy (f:=ft 2 3 3 1) (by simp[E3]) f23.1 f23.2
  have o:fx y 3=fx y 0 + -2:=um sy (f:=ft 0 3 0 2) (by simp[E3]) g03.1 g03.2
  exact absurd o (by grind)
theorem TD:eP de E4=some ([],[0,1],14):=by
 have h:=ce (.inr (.inr (.inr (.inl rfl))))
 have ok:eD de E4=true:=by decide +kernel
 obtain⟨m,hτ⟩:=gO h ok (Zm (.inr (.inr (.inl rfl))))
 have hf:=(Xz h.un).mpr hτ
 cases Yw h with
 |arg a=>rw[ok]at a;cases a
 |turn k r a e=>rw[hf]at e;cases e
 |xs c a e g b i=>
  rw[m]at b
  rw[i,zfC (l:=[0,1]) b (by decide +kernel) Uz (by decide +kernel) λj hj=>?_]
  simp only[aJ,aY,or_false]at hj
  rcases hj with rfl|rfl
  .exact⟨fk 0 0 0 0,by decide +kernel⟩
  .exact⟨fk 0 2 0 0,by decide +kernel⟩
 |ys c a e g b i=>
  rw[m]at b
  rw[i,zfC (l:=[0,1]) b (by decide +kernel) Uz (by decide +kernel) λj hj=>?_]
  simp only[aJ,aY,or_false]at hj
  rcases hj with rfl|rfl
  .exact⟨fk 0 2 0 0,by decide +kernel⟩
  .exact⟨fk 0 0 0 0,by decide +kernel⟩
 |ok x y a e g b i=>
  rw[m]at g
  have sx:=du.mp g.sat
  have x1:fx x 1=fx x 0+2:=ZP sx (f:=ft 0 1 1 3) (by simp[E4]) m5.1 m5.2
  have x2:fx x 1=fx x 0+0:=ZP sx (f:=ft 0 1 2 0) (by simp[E4]) g01.1 g01.2
  exact absurd x2 (by grind)
theorem EM:∀v∈A1,eV 1 v:=by
 have s:V2 1 1 zU:=⟨QV.int (n:=1) Uz,QV.int (n:=0) Uz⟩
 have q:∀{n:Int},n.natAbs<=360->QV (1*4) 360 (qI n):=λh=>(QV.int h).up (k:=4)
 intro v hv
 simp only[A1,aJ,aY,or_false]at hv
 rcases hv with rfl|rfl|rfl|rfl
 .exact⟨s,q (n:=0) Uz,q (n:=0) Uz⟩
 .exact⟨s,q (n:=2) Uz,q (n:=0) Uz⟩
 .exact⟨s,q (n:=2) Uz,q (n:=2) Uz⟩
 .exact⟨s,q (n:=0) Uz,q (n:=2) Uz⟩
theorem S0:fC de E1 A1=some 0:=by
 have h:=ce (.inl rfl)
 have a:xG de.length E1=[0,0,0,0]:=by decide +kernel
 have b:kE de [0,0,0,0] A1=false:=by decide +kernel
 have:=(VP h (A:=A1) rfl EM (by decide +kernel)).1 ⟨by decide +kernel,by rw[a];decide +kernel,by decide +kernel,(show ∀c∈(Yb de (df A1) E1).map bU,fx (mJ A1) c.to<=fx (mJ A1) c.fr+c.m by decide +kernel),(show ∀c∈(Xb de (df A1) E1).map bU,fx (mK A1) c.to<=fx (mK A1) c.fr+c.m by decide +kernel)⟩
 rw[a,b,aD Uz]at this
 exact this
theorem y4{P:List Pc}{F:List Fq}{K:Nat}(h:cr P F K)(ok:eD P F=true){A:List Pl}(hl:A.length≠P.length):fC P F A=some 1:=by
 have e1:=ZS h.fl h.tu rfl h.n.2 h.pc
 unfold eD at ok
 rw[ok,aG rfl]at e1
 unfold fC
 rw[e1,aA,aD Y8,aG (aH Oz)]
theorem Jn{l:List Int}(h:l.length<=11):Lu l l=some true:=by
 unfold Lu
 rw[aD Y8]
 refine zl l.length (λi (x:Int)=>x=(i:Int)) (λo=>o=some true) Oz rfl ?_ ?_
 .rintro i x g hi rfl hg
  rw[aG (zV hi),zu hi,aA,aA,aD Y8,zo Oz,aA]
  exact hg _ rfl
 .rintro x g rfl
  rw[aD Y8]
theorem zbB:P9=some true:=by
 have h:=ce (.inl rfl)
 have p:∀n:Int,tM n [(0,0),(2,0),(2,2),(0,2)]=some (en n):=λn=>zcu rfl
 have s:=eH.2
 have j:m6 2 0=some (qI 2,qI 0):=wX (a:=(2,0)) ⟨by decide,by decide⟩
 have m:m6 2 2=some (qI 2,qI 2):=wX (a:=(2,2)) ⟨by decide,by decide⟩
 have o:m6 0 2=some (qI 0,qI 2):=wX (a:=(0,2)) ⟨by decide,by decide⟩
 have q:dh (-1) 1=some (Rat.divInt (-1) 1):=zeN Uz ⟨by decide,by decide⟩
 have r1:eP [en 0,en 1,en 2,en 3] [(0,1,1,3,1,(qI 1,0),(0,0),0,0),(1,2,2,0,1,(qI 1,0),(0,0),0,0),(2,3,3,1,1,(qI 1,0),(0,0),0,0),(0,3,2,0,1,(qI 1,0),(0,0),0,0)]=some (A1,[],0):=TA
 have r2:eP [en 0,en 1,en 2,en 3] ([(0,1,1,3,1,(qI 1,0),(0,0),0,0),(1,2,2,0,1,(qI 1,0),(0,0),0,0),(2,3,3,1,1,(qI 1,0),(0,0),0,0)]++[(0,3,1,0,1,(0,Rat.divInt (-1) 1),(0,0),0,0)])=some ([],[0,1,2,3],14):=TB
 have r:eP [en 0,en 1,en 2,en 3] ([(0,1,1,3,1,(qI 1,0),(0,0),0,0),(1,2,2,0,1,(qI 1,0),(0,0),0,0),(2,3,3,1,1,(qI 1,0),(0,0),0,0)]++[(0,3,0,2,1,(qI 1,0),(0,0),0,0)])=some ([],[0,1,2,3],14):=TC
 have t:eP [en 0,en 1,en 2,en 3] [(0,1,1,3,1,(qI 1,0),(0,0),0,0),(0,1,2,0,1,(qI 1,0),(0,0),0,0)]=some ([],[0,1],14):=TD
 have u:eP [en 0,en 1,en 2,en 3] [(0,1,1,3,1,(qI 1,0),(0,0),0,0),(0,2,1,3,1,(qI 1,0),(0,0),0,0)]=some ([],[],13):=TE
 have c1:fC [en 0,en 1,en 2,en 3] [(0,1,1,3,1,(qI 1,0),(0,0),0,0),(1,2,2,0,1,(qI 1,0),(0,0),0,0),(2,3,3,1,1,(qI 1,0),(0,0),0,0),(0,3,2,0,1,(qI 1,0),(0,0),0,0)] A1=some 0:=S0
 have g:fC [en 0,en 1,en 2,en 3] [(0,1,1,3,1,(qI 1,0),(0,0),0,0),(1,2,2,0,1,(qI 1,0),(0,0),0,0),(2,3,3,1,1,(qI 1,0),(0,0),0,0),(0,3,2,0,1,(qI 1,0),(0,0),0,0)] [(zU,0,0),(zU,2,0),(zU,2,2)]=some 1:=y4 h (by decide +kernel) Uz
 have w:Iz A1 [((qI 1,0),0,0),((qI 1,0),qI 2,qI 0),((qI 1,0),qI 2,qI 2),((qI 1,0),qI 0,qI 2)]=some true:=WR h.k (A:=A1) Uz EM
 have sl:∀{α:Type} {a b c d:α},qK [a,b,c,d] 0 3=some [a,b,c]:=rfl
 have ap:∀{α:Type} {a b c:α},app ([]:List α) [a,b,c]=some [a,b,c]:=rfl
 have e:∀{α:Type} {a b c d:α},app [a,b,c] [d]=some ([a,b,c]++[d]):=rfl
 have i0:∀{α:Type} {a b c d:α},ae [a,b,c,d] 0=some a:=rfl
 have v:qK A1 0 3=some [(zU,0,0),(zU,2,0),(zU,2,2)]:=rfl
 have n4:=Jn (l:=[0,1,2,3]) Uz
 have i:=Jn (l:=[0,1]) Uz
 unfold P9
 simp only[p,s,j,m,o,q,aA,r1,sl,ap,e,r2,r,i0,t,u]
 rw[aD Uz,aD Uz,aD Uz,aD Uz,aD Uz,aD Uz,n4,aA,aG rfl,aA,aG rfl,i,aA,aG rfl,w,aA,aG rfl,c1,aA,aG Uz,v,aA,g]
 rfl
theorem IC{w h x y b r t l:Int}(E:Bx w h x y b r t l){i k:Nat}(m:i<k)(hk:k<4){pa pb:Pc}{va vb:Pl}{ea eb:Nat}{f:Fq}(c:bm pa)(d:bm pb)(hf:fD ((kX w h x y b r t l).getD i []) ((kX w h x y b r t l).getD k []) pa pb va vb ea eb f)(H:pa.2.2.2.1=[false,false,false,false])(I:pb.2.2.2.1=[false,false,false,false])(F:pa.2.2.2.2.1=[0,0,0,0])(G:pb.2.2.2.2.1=[0,0,0,0]):RL pa pb f=some 0:=by
 have s:=vH (w:=w) (h:=h) (x:=x) (y:=y) (b:=b) (r:=r) (t:=t) (l:=l) (i:=i) Oz
 have u:=vH (w:=w) (h:=h) (x:=x) (y:=y) (b:=b) (r:=r) (t:=t) (l:=l) (i:=k) hk
 have e1:=tB c d hf
 have e2:=IG c d hf H I F G
 have A:=IH s u c d hf
 have B:=IJ s u c d hf
 have D:=IK E m hk c d hf
 obtain⟨na,nb,ua,ub,-,-,v1,v2,-,-,-,-,e⟩:=hf.ex
 have v:V2 1 1 f.2.2.2.2.2.1:=by rw[e];exact vO (Xj na nb)
 have j:SB 1 1:=⟨by decide,by decide⟩
 have a:SB 4 40:=⟨by decide,by decide⟩
 have dv:=SM (na:=na) (nb:=nb) v1 v2
 have he:=c.tol.1.add d.tol.1
 have ev:V2 4 4 (pa.2.2.2.2.2.1+pb.2.2.2.2.2.1,pa.2.2.2.2.2.1+pb.2.2.2.2.2.1):=⟨he,he⟩
 have lo:V2 4 40 f.2.2.2.2.2.2.1:=by rw[e];exact V2.sub (C:=4) dv ev
 have hi:V2 4 40 f.2.2.2.2.2.2.2:=by rw[e];exact V2.add (C:=4) dv ev
 have n:=(wZ v v j j).1
 have p:=(wZ lo lo a a).2.1
 have q:=(wZ hi hi a a).2.1
 rw[aH rfl]at n p q
 unfold RL
 rw[e1,aA,aD Uz,e2,aA,aD Uz,A,aA]
 refine zl 1 (λk x=>x=(k:Int)/\k=0) (λo=>o=some 0) Oz ⟨rfl,rfl⟩ ?_ ?_
 .rintro k x g hk ⟨rfl,rfl⟩ hg
  have z:ae [f.2.2.2.2.2.1] ((0:Nat):Int)=some f.2.2.2.2.2.1:=rfl
  rw[aG (show decide (((0:Nat):Int)<([f.2.2.2.2.2.1].length:Int))=true from rfl),z,aA,n,aA,aG rfl,aD Uz,B,aA,aD Y8,p,aA,aD Uz,q,aA,aD Uz,D,aA,aD Uz]
 .rintro x g ⟨-,h⟩
  exact absurd h Uz
def zr(p:Pc):Pc:=(p.1,p.2.1,p.2.2.1,p.2.2.2.1,p.2.2.2.2.1,0,p.2.2.2.2.2.2)
theorem Ry{p:Pc}(q:bm p):bm (zr p):=⟨q.quad,q.id,q.home,q.worn,q.marks,⟨Hy,dH⟩,q.light,q.heavy,q.strength,q.rough⟩
theorem Co{l:List Int}(hl:Kj l):z7 l=some true:=by
 obtain⟨P,F,A,D,hb⟩:=II hl
 have n4:=hb.n
 have al:=hb.al
 have f4:=hb.fl
 have f:∀j,j<P.length->bm (P.getD j default):=λj hj=>by
  obtain⟨w,h,x,y,b,r,t,l,u,hp,hf⟩:=hb.bx
  exact(hp j hj).pc.1
 have C:ni P P:=⟨rfl,λ_=>rfl,λp hp=>by
  obtain⟨j,hj,rfl⟩:=List.getElem_of_mem hp
  have:=f j hj
  rw[zp hj]at this
  exact this⟩
 have ap:app ([]:List Pc) P=some P:=by rw[yP (by simp;omega)];rfl
 obtain⟨B,c,e,s2,he⟩:=zeY hb C
 have c1:=Vi hb C
 have m:=WR (K:=1) ⟨by decide,by decide⟩ (A:=A) Oz λv hv=>(YL hb v hv).1
 unfold z7
 rw[D,aA]
 refine zl F.length (λi (x:Int)=>x=(i:Int)) (λo=>o=some true) Oz rfl ?_ ?_
 .rintro i x g hi rfl hg
  obtain⟨w,h,x,y,b,r,t,l,u,hp,hf⟩:=hb.bx
  obtain⟨j,k,ea,eb,h1,h2,E,G,q⟩:=hf _ (aL hi)
  obtain⟨n1,u1,-,-,-,-,J,H,-⟩:=(hp j Oz).ex
  obtain⟨n2,u2,-,-,-,-,M,I,-⟩:=(hp k h2).ex
  have i1:ae P F[i].1=some (P.getD j default):=by rw[E,zu (show j<P.length by omega),zp Oz]
  have i2:ae P F[i].2.1=some (P.getD k default):=by rw[G,zu h2,zp h2]
  rw[aG (zV hi),zu hi,aA]
  show((ae P F[i].1).bind _)=_
  rw[i1,aA,i2,aA,IC u h1 Oz (f j Oz) (f k h2) q J M H I,aA,aD Uz,zo (show i<100000 by omega),aA]
  exact hg _ rfl
 .rintro x g rfl
  rw[aD Y8]
  show((app [] P).bind _)=_
  rw[ap,aA]
  refine zl P.length (λi (x:Int×List Pc)=>x.1=(i:Int)/\x.2.length=P.length/\∀j,x.2.getD j default=if j<i then zr (P.getD j default)else P.getD j default) (λo=>o=some true) Oz ⟨rfl,rfl,λj=>by rw[aD Oz]⟩ ?_ ?_
  .rintro i ⟨x,L⟩ g hi ⟨rfl,a,hj⟩ hg
   have a:L.length=P.length:=a
   have hj:∀j,L.getD j default=if j<i then zr (P.getD j default)else P.getD j default:=hj
   have ix:ae L (i:Int)=some (P.getD i default):=by
    have:=hj i
    rw[aD Oz]at this
    rw[xm (e:=default) (show i<L.length by omega),this]
   dsimp only
   rw[aG (by rw[a];exact zV hi),ix,aA,aA,zo (show i<100000 by omega),aA,Int.toNat_natCast]
   refine hg _ ⟨rfl,by rw[y9];exact a,λj=>?_⟩
   rw[Xx Oz]
   by_cases c:j=i
   .subst c
    rw[aG rfl,aG Oz]
    rfl
   .rw[aD c,hj j]
    by_cases d:j<i
    .rw[aG d,aG Oz]
    .rw[aD d,aD Oz]
  .rintro⟨x,L⟩ g ⟨rfl,a,hj⟩
   have a:L.length=P.length:=a
   have hj:∀j,L.getD j default=if j<P.length then zr (P.getD j default)else P.getD j default:=hj
   have z:ni P L:=by
    refine⟨a,λj=>?_,λp hp=>?_⟩
    .rw[hj]
     split
     .rfl
     .rfl
    .obtain⟨j,s,rfl⟩:=List.getElem_of_mem hp
     have:=hj j
     rw[zp s,aG Oz]at this
     rw[this]
     exact Ry (f j Oz)
   have s1:=zdi hb z λj h=>by
    rw[hj,aG h]
    rfl
   have d:=Vi hb z
   dsimp only
   rw[aD (by rw[a];simp)]
   show((eP L F).bind _)=_
   rw[s1,aA]
   show((eP P F).bind _)=_
   rw[s2,aA]
   show((fC P F A).bind _)=_
   rw[c1,aA,aD Uz]
   show((fC L F A).bind _)=_
   rw[d,aA,aD Uz,aD Y8]
   show((Iz A A).bind _)=_
   rw[m,aA,aD Uz]
   rcases he with rfl|⟨rfl,hc⟩
   .rw[aG Y8,zbB]
    rfl
   .rw[aD Y8,aG Y8]
    show((fC P F B).bind _)=_
    rw[hc,aA,aG Uz,zbB]
    rfl
end Go.Proofs.YtocnbjjmmgolfaaGreat
