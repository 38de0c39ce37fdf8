/- Plain law: the box of a fit as the reference finds it. -/
import Derived.Test.YtocnbjjmmgolfaaGreatA29
import Derived.Test.YtocnbjjmmgolfaaGreatA25
set_option linter.unusedSimpArgs false
set_option linter.unusedVariables false
set_option linter.unusedSectionVars false
namespace Go.Proofs.YtocnbjjmmgolfaaGreat
open Go Go.M Go.Proofs.C14
theorem nG{pa pb:Pc}(m:bm pa)(n:bm pb){x y ea eb:Int}{t d:Rat×Rat}(A:Tn 1 t)(hd:V2 4 36 d)(ha:0<=ea/\ea<4)(hb:0<=eb/\eb<4)(hj:∀k:Nat,k<2->∃b c:Nat,b<4/\Q8 (ea+k) 4=some (b:Int)/\c<4/\Q8 (eb+1-k) 4=some (c:Int)/\∀(h1:b<pa.2.2.1.length) (h2:c<pb.2.2.1.length),y5 (ah pa.2.2.1[b]) (yx t (ah pb.2.2.1[c]))=d):vz pa pb (x,y,ea,eb,1,t,(0,0),0,0)=some (y5 d (pa.2.2.2.2.2.1+pb.2.2.2.2.2.1,pa.2.2.2.2.2.1+pb.2.2.2.2.2.1),vx d (pa.2.2.2.2.2.1+pb.2.2.2.2.2.1,pa.2.2.2.2.2.1+pb.2.2.2.2.2.1),true):=by
 obtain⟨la,Q,-,na,-⟩:=qB m
 obtain⟨lb,R,-,nb,-⟩:=qB n
 have st:mM pa pb (x,y,ea,eb,1,t,(0,0),0,0)=some true:=by
  rw[zgA la lb]
  exact congrArg some (aH ⟨ha,hb,show(1:Int)<=1 by decide,show(1:Int)<4 by decide⟩)
 have e0:0<=pa.2.2.2.2.2.1+pb.2.2.2.2.2.1:=by have:=m.tol.2;have:=n.tol.2;grind
 have B:=vO A
 have ut:Ci t=some true:=by
  obtain⟨d,h1,h2,F⟩:=Rh A Uz
  rw[(Kn h1 ⟨h2.1.le Uz,h2.2.le Uz⟩).2,F]
 have l:SB 4 2:=⟨by decide,by decide⟩
 have h:SB 4 4:=⟨by decide,by decide⟩
 have a:SB 4 60:=⟨by decide,by decide⟩
 have s40:SB 4 40:=⟨by decide,by decide⟩
 have he:=m.tol.1.add n.tol.1
 have D:=yE (m.tol.1.sm l) (n.tol.1.sm l)
 generalize pa.2.2.2.2.2.1+pb.2.2.2.2.2.1=e at *
 unfold vz
 rw[st,aA,aD Uz]
 show(Ci t).bind _=_
 rw[ut,aA,aD Uz,Q,aA,R,aA,D,aA]
 have le:(pa.2.2.1.map ah).length=4:=by rw[bI];exact la
 have L:(pb.2.2.1.map ah).length=4:=by rw[bI];exact lb
 refine zl 2 (λk x=>x.1=(k:Int)/\(k=0\/x.2=((y5 d (e,e)).1,(y5 d (e,e)).2,(vx d (e,e)).1,(vx d (e,e)).2))) (λo=>o=_) Oz ⟨rfl,.inl rfl⟩ ?_ ?_
 .rintro k ⟨U,V,x2,W,X⟩ g hk ⟨rfl,hx⟩ hg
  obtain⟨b,c,q1,P,r1,r2,w⟩:=hj k hk
  have v1:=na _ (aL (show b<pa.2.2.1.length by omega))
  have v2:=nb _ (aL (show c<pb.2.2.1.length by omega))
  have S:ae (pa.2.2.1.map ah) (b:Int)=some (ah pa.2.2.1[b]):=by rw[zu V4,List.getElem_map]
  have T:ae (pb.2.2.1.map ah) (c:Int)=some (ah pb.2.2.1[c]):=by rw[zu V4,List.getElem_map]
  have v:=w Oz Oz
  generalize pa.2.2.1[b]=c1 at *
  generalize pb.2.2.1[c]=j at *
  have O:=u7 B (kN v2) ⟨by decide,by decide⟩ ⟨by decide,by decide⟩ ⟨by decide,by decide⟩
  have u2:=V2.rot B (kN v2)
  have dv:=(V2.sub (kN v1) u2).up (k:=4)
  have dv:V2 4 36 (y5 (ah c1) (yx t (ah j))):=dv
  have e1:=Rj (kN v1) u2 ⟨by decide,by decide⟩ ⟨by decide,by decide⟩
  have i:V2 4 4 (e,e):=⟨he,he⟩
  have f:SB 4 36:=⟨by decide,by decide⟩
  have e2:=Rj dv i f h
  have E:Lv (y5 (ah c1) (yx t (ah j))) (e,e)=some (vx (y5 (ah c1) (yx t (ah j))) (e,e)):=by
   unfold Lv
   rw[yE (dv.1.sm f) (he.sm h),yE (dv.2.sm f) (he.sm h)]
   rfl
  have lo:V2 4 40 (y5 (y5 (ah c1) (yx t (ah j))) (e,e)):=V2.sub (C:=4) dv i
  have hi:V2 4 40 (vx (y5 (ah c1) (yx t (ah j))) (e,e)):=V2.add (C:=4) dv i
  rw[aG (aH (by show(k:Int)<=1;omega)),xd (show(ea+(k:Int)).natAbs<_ by omega),aA,xd (show(eb+1).natAbs<_ by omega),aA,xd (show(eb+1-(k:Int)).natAbs<_ by omega),aA,le,L]
  rw[show((4:Nat):Int)=4 from rfl,P,aA,S,aA,r2,aA,T,aA,QF O,aA,e1,aA,e2,aA,E,aA]
  rw[v]at lo hi |-
  have p:=lo.1.le (C:=60) Uz
  have r:=lo.2.le (C:=60) Uz
  have s:=hi.1.le (C:=60) Uz
  have u:=hi.2.le (C:=60) Uz
  have M:∀z:Rat,decide (0<kV z z)=false:=λz=>aX λq=>Rat.lt_irrefl (cN.mp q)
  have N:∀z:Rat,decide (kV z z<0)=false:=λz=>aX λq=>Rat.lt_irrefl (fm.mp q)
  have K:k=0\/k=1:=by omega
  rcases K with rfl|rfl
  .have Y:decide (((0:Nat):Int)=0)=true:=rfl
   simp only[Y,o9]
   rw[zo (show 0<100000 by omega),aA]
   exact hg _ ⟨rfl,.inr rfl⟩
  .have Z:decide (((1:Nat):Int)=0)=false:=rfl
   have hx:=hx.resolve_left Uz
   cases hx
   have G:=yW (p.sm a) (p.sm a)
   have H:=yW (r.sm a) (r.sm a)
   have I:=yW (s.sm a) (s.sm a)
   have J:=yW (u.sm a) (u.sm a)
   simp only[Z,Jo,G,H,I,J,aA,M,N]
   rw[zo (show 1<100000 by omega),aA]
   exact hg _ ⟨rfl,.inr rfl⟩
 .rintro⟨U,V,x2,W,X⟩ g ⟨rfl,hx⟩
  have hx:=hx.resolve_left Uz
  cases hx
  have i:V2 4 4 (e,e):=⟨he,he⟩
  have lo:V2 4 40 (y5 d (e,e)):=V2.sub (C:=4) hd i
  have hi:V2 4 40 (vx d (e,e)):=V2.add (C:=4) hd i
  have p:=lo.1.le (C:=60) Uz
  have r:=lo.2.le (C:=60) Uz
  have s:=hi.1.le (C:=60) Uz
  have u:=hi.2.le (C:=60) Uz
  have p1:¬0<kV (y5 d (e,e)).1 (vx d (e,e)).1:=λq=>by
   have:=cN.mp q
   have:d.1+e<d.1-e:=this
   grind
  have p2:¬0<kV (y5 d (e,e)).2 (vx d (e,e)).2:=λq=>by
   have:=cN.mp q
   have:d.2+e<d.2-e:=this
   grind
  rw[aD (show ¬(decide (((2:Nat):Int)<=1)=true)by decide),yW (p.sm a) (s.sm a),aA,aX p1,Jo,yW (r.sm a) (u.sm a),aA,aX p2,Jo]
theorem JK{n:Nat}(h:n<8):Q8 (n:Int) 4=some ((n % 4:Nat):Int):=by
 have q:∀{a:Int} (j:Nat),(Int.tmod a 4+4).natAbs<1000->Int.tmod (Int.tmod a 4+4) 4=(j:Int)->Q8 a 4=some (j:Int):=λj h g=>by
  unfold Q8
  rw[aD Uz,xd Oz,aA,aD Uz,g]
 have e:n=0\/n=1\/n=2\/n=3\/n=4\/n=5\/n=6\/n=7:=by omega
 rcases e with rfl|rfl|rfl|rfl|rfl|rfl|rfl|rfl<;>exact q _ Uz Uz
def Gk(q q':List (Int×Int))(ea eb:Nat):Prop:=q.getD ea (0,0)=q'.getD ((eb+1) % 4) (0,0)/\q.getD ((ea+1) % 4) (0,0)=q'.getD eb (0,0)
theorem KE:∀n:Nat,Tn 1 (rq n)
 |0=>Xi
 |n+1=>(KE n).quarter
theorem Xj(na nb:Nat):Tn 1 (fv na nb):=(KE _).bck.aft (KE _)
theorem SM{na nb:Nat}{ua ub:Int×Int}(ha:Nr 4 ua)(hb:Nr 4 ub):V2 4 36 (fS na nb ua ub):=by
 have a:=kN ha
 have b:=V2.rot (vO (Xj na nb)) (kN hb)
 have c:V2 1 12 (y5 (ah ua) (yx (fv na nb) (ah ub))):=V2.sub a b
 have:=c.up (k:=4)
 exact⟨this.1.le Uz,this.2.le Uz⟩
section
variable{q q':List (Int×Int)}(hq:q.length=4)(hq':q'.length=4){pa pb:Pc}(ka:bm pa)(kb:bm pb){na nb:Nat}(ha:na<4)(hb:nb<4){ua ub:Int×Int}(va:Nr 4 ua)(vb:Nr 4 ub)(ra:pa.2.2.1=q.map (bz na ua))(rb:pb.2.2.1=q'.map (bz nb ub)){ea eb:Nat}(he:ea<4)(he':eb<4)(h1:Gk q q' ea eb)
include hq hq' ra rb ha hb he he' h1
theorem JE{k:Nat}(hk:k<2){a b:Nat}(e1:a=(ea+k) % 4)(e2:b=(eb+1-k) % 4)(l1:a<pa.2.2.1.length)(l2:b<pb.2.2.1.length):y5 (ah pa.2.2.1[a]) (yx (fv na nb) (ah pb.2.2.1[b]))=fS na nb ua ub:=by
 have g1:pa.2.2.1[a]=bz na ua (q.getD a (0,0)):=by
  rw[zp (show a<q.length by omega)]
  simp only[ra,List.getElem_map]
 have g2:pb.2.2.1[b]=bz nb ub (q'.getD b (0,0)):=by
  rw[zp (show b<q'.length by omega)]
  simp only[rb,List.getElem_map]
 have c:q.getD a (0,0)=q'.getD b (0,0):=by
  have:k=0\/k=1:=by omega
  rcases this with rfl|rfl
  .rw[show a=ea by omega,show b=(eb+1) % 4 by omega];exact h1.1
  .rw[show a=(ea+1) % 4 by omega,show b=eb by omega];exact h1.2
 rw[g1,g2,c]
 exact RZ ha hb ua ub _
include ka kb va vb
theorem lE{x y:Int}:vz pa pb (x,y,(ea:Int),(eb:Int),1,fv na nb,(0,0),0,0)=some (y5 (fS na nb ua ub) (pa.2.2.2.2.2.1+pb.2.2.2.2.2.1,pa.2.2.2.2.2.1+pb.2.2.2.2.2.1),vx (fS na nb ua ub) (pa.2.2.2.2.2.1+pb.2.2.2.2.2.1,pa.2.2.2.2.2.1+pb.2.2.2.2.2.1),true):=by
 refine nG ka kb (Xj na nb) (SM va vb) Oz Oz λk hk=>⟨(ea+k) % 4,(eb+1-k) % 4,by omega,?_,by omega,?_,λa b=>JE hq hq' ha hb ra rb he he' h1 hk rfl rfl a b⟩
 .have:=JK (n:=ea+k) Oz
  rw[<-this]
  congr 1
 .have:=JK (n:=eb+1-k) Oz
  rw[<-this]
  congr 1
  omega
end
theorem prs{α:Type}{a b c d:α}:ae [a,b,c,d] 0=some a/\ae [a,b,c,d] 1=some b/\ae [a,b,c,d] 2=some c/\ae [a,b,c,d] 3=some d:=⟨rfl,rfl,rfl,rfl⟩
structure fD(q q':List (Int×Int))(pa pb:Pc)(va vb:Pl)(ea eb:Nat)(f:Fq):Prop where
 ed:ea<4/\eb<4
 one:Gk q q' ea eb
 ex:∃na nb ua ub,na<4/\nb<4/\Nr 4 ua/\Nr 4 ub/\pa.2.2.1=q.map (bz na ua)/\pb.2.2.1=q'.map (bz nb ub)/\va=gr na ua/\vb=gr nb ub/\f.2.2=((ea:Int),(eb:Int),1,fv na nb,y5 (fS na nb ua ub) (pa.2.2.2.2.2.1+pb.2.2.2.2.2.1,pa.2.2.2.2.2.1+pb.2.2.2.2.2.1),vx (fS na nb ua ub) (pa.2.2.2.2.2.1+pb.2.2.2.2.2.1,pa.2.2.2.2.2.1+pb.2.2.2.2.2.1))
 ok:fY f/\Tn 1 f.2.2.2.2.2.1
def LC(Q:List (List (Int×Int)))(P:List Pc)(A:List Pl)(f:Fq):Prop:=∃(i k ea eb:Nat),i<k/\k<P.length/\f.1=(i:Int)/\f.2.1=(k:Int)/\fD (Q.getD i []) (Q.getD k []) (P.getD i default) (P.getD k default) (A.getD i default) (A.getD k default) ea eb f
def FsX(Q:List (List (Int×Int)))(P:List Pc)(A:List Pl)(o:Option (List Pc×List Fq×List Pl)):Prop:=∃F,o=some (P,F,A)/\(0<F.length/\F.length<=4)/\(∀f∈F,LC Q P A f)/\∀j:Nat,0<j->j<P.length->∃f∈F,f.2.1=(j:Int)/\0<=f.1/\f.1<(j:Int)
theorem jQ{q q':List (Int×Int)}{i k:Nat}{pa pb:Pc}{va vb:Pl}(ha:ez q i pa va)(hb:ez q' k pb vb){x y:Int}{ea eb:Nat}(n:q.length=4)(b:q'.length=4)(h1:ea<4/\x.natAbs<100)(h2:eb<4/\y.natAbs<100)(ho:Gk q q' ea eb) :
 jC va.1=some (bck va.1)/\fR (bck va.1) vb.1=some (yx (bck va.1) vb.1)/\∃r,vz pa pb (x,y,(ea:Int),(eb:Int),1,yx (bck va.1) vb.1,(0,0),0,0)=some r/\fD q q' pa pb va vb ea eb (x,y,(ea:Int),(eb:Int),1,yx (bck va.1) vb.1,r.1,r.2.1):=by
 obtain⟨na,l,c,d,-,f,-,-,rfl⟩:=ha.ex
 obtain⟨nb,m,g,h,-,j,-,-,rfl⟩:=hb.ex
 obtain⟨f1,f2,r,f3,f4,f5⟩:=oX ha.pc.1 hb.pc.1 (va:=gr na l) (vb:=gr nb m) (KE _) (KE _) (x:=x) (y:=y) (ea:=(ea:Int)) (eb:=(eb:Int)) h1.2 h2.2 Oz Oz
 have e:=lE n b ha.pc.1 hb.pc.1 c g d h f j h1.1 h2.1 ho (x:=x) (y:=y)
 refine⟨f1,f2,r,f3,⟨h1.1,h2.1⟩,ho,⟨na,nb,l,m,c,g,d,h,f,j,rfl,rfl,?_⟩,f4,f5⟩
 have a:vz pa pb (x,y,(ea:Int),(eb:Int),1,fv na nb,(0,0),0,0)=some r:=f3
 rw[e]at a
 cases a
 rfl
theorem Gx{w h x' y b r t l:Int}{n:Nat}(hn:2<=n/\n<=4){P:List Pc}{A:List Pl}(S:ig (kX w h x' y b r t l) n P A){x:Int}:FsX (kX w h x' y b r t l) P A (SY (n:Int) (x,P,A)):=by
 have hP:=S.pl
 have hA:=S.al
 generalize G:kX w h x' y b r t l=Q at *
 have I:∀k:Nat,k<n->∃p v,ae P (k:Int)=some p/\ae A (k:Int)=some v/\P.getD k default=p/\A.getD k default=v/\ez (Q.getD k []) k p v:=λk hk=>by
  have h1:k<P.length:=by omega
  have h2:k<A.length:=by omega
  have:=S.at' k hk
  rw[zp h1,zp h2]at this
  exact⟨_,_,zu h1,zu h2,zp h1,zp h2,this⟩
 have hl:∀k:Nat,k<4->(Q.getD k []).length=4:=λk hk=>by subst G;exact vH hk
 obtain⟨U,v0,z,D,m,q,Y⟩:=I 0 Oz
 obtain⟨p1,v1,B,E,g,i,T⟩:=I 1 Oz
 obtain⟨X,b1,r1,c1,f1⟩:=jQ Y T (x:=0) (y:=1) (ea:=1) (eb:=3) (hl 0 Uz) (hl 1 Uz) Uz Uz (by subst G;exact⟨rfl,rfl⟩)
 have c1:vz U p1 (0,1,1,3,1,yx (bck v0.1) v1.1,(0,0),0,0)=some r1:=c1
 have z:ae P 0=some U:=z
 have D:ae A 0=some v0:=D
 have B:ae P 1=some p1:=B
 have E:ae A 1=some v1:=E
 have H:∀f:Fq,app ([]:List Fq) [f]=some [f]:=λ_=>rfl
 have d:∀(l:List Fq) (f:Fq),l.length<10->app l [f]=some (l++[f]):=λl f h=>yP (by simp;omega)
 have e:n=2\/n=3\/n=4:=by omega
 unfold SY
 simp only[prs,aA,z,D,B,E,X,b1,c1,H]
 rcases e with rfl|rfl|rfl
 .rw[aG (show decide ((1:Int)<((2:Nat):Int))=true from rfl),aD (show ¬decide ((3:Int)<((2:Nat):Int))=true by decide),aD (show ¬decide ((2:Int)<((2:Nat):Int))=true by decide),aD (show ¬decide ((3:Int)<((2:Nat):Int))=true by decide)]
  exact⟨_,rfl,⟨by simp,by simp⟩,λf hf=>by
   simp only[aJ,aY,or_false]at hf
   subst hf
   exact⟨0,1,_,_,by decide,by omega,rfl,rfl,by rw[m,g,q,i];exact f1⟩,λj h0 hj=>by
   obtain rfl:j=1:=by omega
   exact⟨_,aO ..,rfl,(show(0:Int)<=0 by decide),(show(0:Int)<1 by decide)⟩⟩
 .obtain⟨p2,v2,a,c,o,s,L⟩:=I 2 Oz
  have a:ae P 2=some p2:=a
  have c:ae A 2=some v2:=c
  obtain⟨M,N,r2,u,f2⟩:=jQ T L (x:=1) (y:=2) (ea:=2) (eb:=0) (hl 1 Uz) (hl 2 Uz) Uz Uz (by subst G;exact⟨rfl,rfl⟩)
  have u:vz p1 p2 (1,2,2,0,1,yx (bck v1.1) v2.1,(0,0),0,0)=some r2:=u
  rw[aG (show decide ((1:Int)<((3:Nat):Int))=true from rfl),aD (show ¬decide ((3:Int)<((3:Nat):Int))=true by decide),aG (show decide ((2:Int)<((3:Nat):Int))=true from rfl)]
  simp only[a,c,aA,M,N,u]
  rw[d _ _ Y8,aA,aD (show ¬decide ((3:Int)<((3:Nat):Int))=true by decide)]
  exact⟨_,rfl,⟨by simp,by simp⟩,λf hf=>by
   simp only[aW,aJ,aY,or_false]at hf
   rcases hf with rfl|rfl
   .exact⟨0,1,_,_,by decide,by omega,rfl,rfl,by rw[m,g,q,i];exact f1⟩
   .exact⟨1,2,_,_,by decide,by omega,rfl,rfl,by rw[g,o,i,s];exact f2⟩,λj h0 hj=>by
   obtain rfl|rfl:j=1\/j=2:=by omega
   .exact⟨_,bJ _ (aO ..),rfl,(show(0:Int)<=0 by decide),(show(0:Int)<1 by decide)⟩
   .exact⟨_,bA _ (aO ..),rfl,(show(0:Int)<=1 by decide),(show(1:Int)<2 by decide)⟩⟩
 .obtain⟨p2,v2,a,c,o,s,L⟩:=I 2 Oz
  obtain⟨V,W,C,F,J,K,Z⟩:=I 3 Oz
  have a:ae P 2=some p2:=a
  have c:ae A 2=some v2:=c
  have C:ae P 3=some V:=C
  have F:ae A 3=some W:=F
  obtain⟨M,N,r2,u,f2⟩:=jQ Y Z (x:=0) (y:=3) (ea:=2) (eb:=0) (hl 0 Uz) (hl 3 Uz) Uz Uz (by subst G;exact⟨rfl,rfl⟩)
  have u:vz U V (0,3,2,0,1,yx (bck v0.1) W.1,(0,0),0,0)=some r2:=u
  obtain⟨a3,b3,r3,O,f3⟩:=jQ T L (x:=1) (y:=2) (ea:=2) (eb:=0) (hl 1 Uz) (hl 2 Uz) Uz Uz (by subst G;exact⟨rfl,rfl⟩)
  have O:vz p1 p2 (1,2,2,0,1,yx (bck v1.1) v2.1,(0,0),0,0)=some r3:=O
  obtain⟨a4,b4,r4,R,f4⟩:=jQ L Z (x:=2) (y:=3) (ea:=3) (eb:=1) (hl 2 Uz) (hl 3 Uz) Uz Uz (by subst G;exact⟨rfl,rfl⟩)
  have R:vz p2 V (2,3,3,1,1,yx (bck v2.1) W.1,(0,0),0,0)=some r4:=R
  rw[aG (show decide ((1:Int)<((4:Nat):Int))=true from rfl),aG (show decide ((3:Int)<((4:Nat):Int))=true from rfl)]
  simp only[C,F,aA,M,N,u]
  rw[d _ _ Y8,aA,aG (show decide ((2:Int)<((4:Nat):Int))=true from rfl)]
  simp only[a,c,X,aA,a3,b3,O]
  rw[d _ _ Y8,aA,aG (show decide ((3:Int)<((4:Nat):Int))=true from rfl)]
  simp only[aA,a4,b4,R]
  rw[d _ _ Y8]
  exact⟨_,rfl,⟨by simp,by simp⟩,λf hf=>by
   simp only[aW,aJ,aY,or_false]at hf
   rcases hf with((rfl|rfl)|rfl)|rfl
   .exact⟨0,1,_,_,by decide,by omega,rfl,rfl,by rw[m,g,q,i];exact f1⟩
   .exact⟨0,3,_,_,by decide,by omega,rfl,rfl,by rw[m,J,q,K];exact f2⟩
   .exact⟨1,2,_,_,by decide,by omega,rfl,rfl,by rw[g,o,i,s];exact f3⟩
   .exact⟨2,3,_,_,by decide,by omega,rfl,rfl,by rw[o,J,s,K];exact f4⟩,λj h0 hj=>by
   obtain rfl|rfl|rfl:j=1\/j=2\/j=3:=by omega
   .exact⟨_,bJ _ (bJ _ (bJ _ (aO ..))),rfl,(show(0:Int)<=0 by decide),(show(0:Int)<1 by decide)⟩
   .exact⟨_,bJ _ (bA _ (aO ..)),rfl,(show(0:Int)<=1 by decide),(show(1:Int)<2 by decide)⟩
   .exact⟨_,bJ _ (bJ _ (bA _ (aO ..))),rfl,(show(0:Int)<=0 by decide),(show(0:Int)<3 by decide)⟩⟩
structure tR(P:List Pc)(F:List Fq)(A:List Pl):Prop where
 n:2<=P.length/\P.length<=4
 al:A.length=P.length
 bx:∃w h x y b r t l,Bx w h x y b r t l/\(∀j,j<P.length->ez ((kX w h x y b r t l).getD j []) j (P.getD j default) (A.getD j default))/\∀f∈F,LC (kX w h x y b r t l) P A f
 fl:0<F.length/\F.length<=4
 cn:∀j:Nat,0<j->j<P.length->∃f∈F,f.2.1=(j:Int)/\0<=f.1/\f.1<(j:Int)
def Ki(o:Option (List Pc×List Fq×List Pl)):Prop:=∃P F A,o=some (P,F,A)/\tR P F A
theorem zhI{l:List Int}(hl:Kj l){w h x' y b d t c:Int}(D:Bx w h x' y b d t c)(p:∀q∈kX w h x' y b d t c,Qd 8 q):Ki (Lg l (kX w h x' y b d t c)):=by
 have o:(kX w h x' y b d t c).length=4:=rfl
 obtain⟨r,s,r0,r1⟩:=jl hl (i:=8) (m:=3) Uz Uz Uz
 obtain⟨m,rfl⟩:=Int.eq_ofNat_of_zero_le r0
 unfold Lg
 rw[s,aA,xd (show(2+(m:Int)).natAbs<_ by omega),aA]
 have hm:m<=2:=by omega
 refine zl (2+m) (λi x=>x.1=(i:Int)/\ig (kX w h x' y b d t c) i x.2.1 x.2.2) Ki Oz ⟨rfl,rfl,rfl,λj hj=>absurd hj Oz⟩ ?_ ?_
 .rintro i ⟨x,P,A⟩ g hi ⟨rfl,a⟩ hg
  have a:ig (kX w h x' y b d t c) i P A:=a
  obtain⟨q,eq,q0,q1⟩:=jl hl (i:=9+(i:Int)) (m:=4) Oz Uz Uz
  obtain⟨u,z,u0,u1⟩:=jl hl (i:=13+(i:Int)) (m:=9) Oz Uz Uz
  obtain⟨v,B,w0,w1⟩:=jl hl (i:=17+(i:Int)) (m:=9) Oz Uz Uz
  obtain⟨k,rfl⟩:=Int.eq_ofNat_of_zero_le q0
  have post:∀P' f,ig (kX w h x' y b d t c) (i+1) P' f->Ki (g (((i+1:Nat):Int),P',f)):=λP' f h=>hg _ ⟨rfl,h⟩
  unfold SZ
  rw[aG (aH (by show(i:Int)<_;omega)),xd (show(9+(i:Int)).natAbs<_ by omega),aA,eq,aA,xd (show(13+(i:Int)).natAbs<_ by omega),aA,z,aA,xd (show(u-4).natAbs<_ by omega),aA,xd (show(17+(i:Int)).natAbs<_ by omega),aA,B,aA,xd (show(v-4).natAbs<_ by omega),aA]
  by_cases n:i=0
  .rw[aG (aH (by show(i:Int)=0;omega)),Gw]
   exact nR hl o p Oz a post (r:=0) Uz (u:=0) (w:=0) ⟨by decide,by decide⟩ λ_=>⟨rfl,rfl⟩
  .rw[aD (by simp only[aC];omega)]
   exact nR hl o p Oz a post Oz ⟨by show(u-4).natAbs<=4;omega,by show(v-4).natAbs<=4;omega⟩ λe=>absurd e n
 .rintro⟨x,P,A⟩ g ⟨rfl,a⟩
  have a:ig (kX w h x' y b d t c) (2+m) P A:=a
  obtain⟨F,e,h1,h2,C⟩:=Gx Oz a (x:=((2+m:Nat):Int))
  unfold SZ
  rw[aD (by simp only[aC];omega)]
  have pl:=a.pl
  have al:=a.al
  exact⟨P,F,A,e,⟨by omega,by omega,⟨w,h,x',y,b,d,t,c,D,λj hj=>a.at' j Oz,h2⟩,h1,C⟩⟩
theorem II{l:List Int}(hl:Kj l):Ki (z8 l):=by
 obtain⟨a,ea,a0,g⟩:=jl hl (i:=0) (m:=5) Uz Uz Uz
 obtain⟨b,eb,n,o⟩:=jl hl (i:=1) (m:=5) Uz Uz Uz
 have v:∀{i s:Int},0<=i->0<=s->s<5->∃r,fB l i (4+s-1)=some r/\0<=r/\r<=7/\1+r<4+s:=λ{i s} hi h0 h1=>by
  obtain⟨r,e,r0,r1⟩:=jl hl (i:=i) (m:=4+s-1) hi Oz Oz
  exact⟨r,e,r0,by omega,by omega⟩
 obtain⟨c,z,c0,c1,c2⟩:=v (i:=2) Uz a0 g
 obtain⟨d,ed,d0,d1,d2⟩:=v (i:=3) Uz n o
 obtain⟨f,A,f0,f1,f2⟩:=v (i:=4) Uz a0 g
 obtain⟨h,B,h0,h1,h2⟩:=v (i:=5) Uz n o
 obtain⟨j,C,j0,j1,j2⟩:=v (i:=6) Uz a0 g
 obtain⟨k,D,k0,k1,k2⟩:=v (i:=7) Uz n o
 obtain⟨Q,p,lQ,F⟩:=zfE (w:=4+a) (h:=4+b) (x:=1+c) (y:=1+d) (b:=1+f) (r:=1+h) (t:=1+j) (l:=1+k) Oz Oz Oz Oz Oz Oz Oz Oz
 obtain⟨w,E,hw⟩:=ID Oz F
 obtain⟨R,q,lR,u⟩:=nY
 unfold z8
 rw[ea,aA,xd (show(4+a).natAbs<_ by omega),aA,eb,aA,xd (show(4+b).natAbs<_ by omega),aA,xd (show(4+a-1).natAbs<_ by omega),aA,z,aA,xd (show(1+c).natAbs<_ by omega),aA,xd (show(4+b-1).natAbs<_ by omega),aA,ed,aA,xd (show(1+d).natAbs<_ by omega),aA,aA,aA,aA,aA,A,aA,xd (show(1+f).natAbs<_ by omega),aA,B,aA,xd (show(1+h).natAbs<_ by omega),aA,C,aA,xd (show(1+j).natAbs<_ by omega),aA,D,aA,xd (show(1+k).natAbs<_ by omega),aA,p,aA,E,aA]
 have e1:Q=kX (4+a) (4+b) (1+c) (1+d) (1+f) (1+h) (1+j) (1+k):=by cases p;rfl
 have e2:R=kX 4 4 2 2 2 2 2 2:=by cases q;rfl
 cases w
 .rw[aG Uz,q,aA]
  show Ki (Lg l R)
  rw[e2]at u |-
  exact zhI hl ⟨by omega,by omega,by omega,by omega,by omega,by omega⟩ u
 .rw[aD Uz]
  show Ki (Lg l Q)
  have hw:=hw rfl
  rw[e1]at hw |-
  exact zhI hl ⟨by omega,by omega,by omega,by omega,by omega,by omega⟩ hw
def Γ2:TypeId->Option Ty:=λt=>cW [(77,tJ),(69,tW),(38,bw),(34,.rat),(72,dx),(4,.bool),(3,(.int .i64)),(36,bG),(40,fM),(27,Le),(54,hZ),(87,MU),(214,iE),(126,nv),(162,ny),(164,QD),(166,uG),(139,dz),(290,nA),(271,iF),(185,Wh),(229,F9),(226,jX)] t
noncomputable def sY(a:List Int)(b:List Int):Option Int:=zk (λc (d:Int)=>if decide (d<a.length)then(ae a d).bind λe=>if decide ((b.length:Int)<=d)then some 1 else(ae b d).bind λf=>(IY e f).bind λg=>if decide (g≠0)then some g else(i64 (d+1)).bind λh=>c h else if decide ((a.length:Int)<b.length)then some (-1)else some 0) (zi 64) 0
noncomputable def nz:=zm Ec 205 ⟨[S3,S3],(.int .i64),67,λx=>sY x.1 x.2⟩
theorem HW:ad nz:=ad.next (Γ:=Γ2) (Hs:=fa [(205,[{frz:=[],cst:=[0,1,9,10],vars:=[(11,false,[.hole])],objs:=[],own:=[],ts:=[(.int .i64)],fuel:=64}])]) (rs:=[67]) Pe rfl λx=>by kernel_rfl
noncomputable def mW(a:List (Int×Int×Rat))(b:List (List (Bool×Rat)))(c d:Int)(e:Rat):Option Int:=zk (λf (g:Int)=>if decide (g<a.length)then(ae a g).bind λh=>(ae b c).bind λi=>(ae i h.2.1).bind λj=>if decide (h.1=d)then if j.1=true then(qF h.2.2 j.2).bind λk=>(qF e k).bind λl=>(qA l).bind λm=>if decide (m<0)then some g else(i64 (g+1)).bind λn=>f n else(i64 (g+1)).bind λk=>f k else(i64 (g+1)).bind λk=>f k else some (-1)) (zi 64) 0
def NY:FuncId->List Hi:=fa [(246,[{frz:=[],cst:=[0,1,7],vars:=[(8,false,[.hole])],objs:=[],own:=[],ts:=[(.int .i64)],fuel:=64}])]
theorem GQ(a0:List (Int×Int×Rat))(a:List (List (Bool×Rat)))(b c:Int)(d:Rat):Ga Γ2 nz NY [51585,806,4] 246 [] 5 [.one (.sl 164 6 QD a0),.clo 253 [.ptr 0 0,.ptr 1 0,.ptr 2 0,.ptr 3 0,.ptr 4 0]] [.cells [.sl 226 1 jX a],.cells [.int .i64 b],.cells [.int .i64 c],.cells [.fn 213],.cells [.rat d]] (λp _=>KF (.int .i64) p)=mW a0 a b c d:=by kernel_rfl
theorem SU:VT Tryz.prog 34=some ([.bool false,.slice none 0 0,.bool false,.slice none 0 0],[(0,2),(2,2)]):=by kernel_rfl
theorem ET:wM Tryz.prog 118=some (true,0,6):=by kernel_rfl
theorem NC:vM Tryz.f212 (Tryz.f212.body.getD .skip) 5=true:=by kernel_rfl
theorem NT:xE Tryz.prog 246=true:=by kernel_rfl
theorem Ti:xE Tryz.prog 30=true:=by kernel_rfl
theorem AW:ZI Tryz.prog 164 1=some 1:=by kernel_rfl
theorem AX:ZI Tryz.prog 164 2=some 2:=by kernel_rfl
theorem zat:ZI Tryz.prog 166 1=some 1:=by kernel_rfl
theorem rQ:z3 Tryz.prog 118=some (none):=by kernel_rfl
theorem HK:z3 Tryz.prog 34=some (some 4):=by kernel_rfl
theorem Pa:qV Tryz.prog 34=some 4:=by kernel_rfl
theorem zf3:jy Tryz.prog 3=some [.int .i64 0]:=by kernel_rfl
theorem za1:jy Tryz.prog 34=some [.bool false,.slice none 0 0,.bool false,.slice none 0 0]:=by kernel_rfl
theorem Rg{I:zZ}(B:zx I){Γ:TypeId->Option Ty}{T:FuncId->Option eQ}{Hs:FuncId->List Hi}(E:QE I T){rs:List Nat}{g:FuncId}{k:IntKind}{s:St}(hf:Fine s){W:Wd}(F:et s W){objs:List Ob}{bs:List Nat}{cs:List ak}{ps:List Pv}{vs:List Value}{r:Int}
 (hlen:objs.length=bs.length) (C:cs.length=bs.length) (hl:∀(i:Nat) b o,bs[i]? = some b->cs[i]? = some o->s.get b=some o/\b<s.next) (hn:bs.Nodup)
 (m:∀(i:Nat) x b o,objs[i]? = some x->bs[i]? = some b->cs[i]? = some o->cZ (W.x []) (bs.map λb=>(undef,b)) x (undef,b) (some o)) (t:er (W.x []) (bs.map λb=>(undef,b)) ps vs) (hg:Nat.ble zy g=false)
 (J:Ga Γ T Hs rs g [] objs.length ps objs (λp _=>KF (.int k) p)=some r) (hroom:s.next+fF rs<=zA):Rp W I g ⟨vs⟩ s (fF rs) (.int k) r:=by
 have f:∀{i:Nat} {q:Value×Nat},(bs.map λb=>((undef:Value),b))[i]? = some q->bs[i]? = some q.2/\q=(undef,q.2):=λ{i q} h=>by
  rw[List.getElem?_map]at h
  obtain⟨b,hb,rfl⟩:=Option.map_eq_some_iff.mp h
  exact⟨hb,rfl⟩
 have go:∀{i:Nat} {o:Option ak},(cs.map some)[i]? = some o->∃c,o=some c/\cs[i]? = some c:=λ{i o} h=>by
  rw[List.getElem?_map]at h
  obtain⟨c,hc,rfl⟩:=Option.map_eq_some_iff.mp h
  exact⟨c,rfl,hc⟩
 have G:GX (bs.map λb=>((undef:Value),b)) W s s ⟨[],[],objs.length,objs.length⟩ [] ⟨[],objs⟩ (λ_=>undef) 0 (bs.map λb=>((undef:Value),b)) (cs.map some) [] []:=
  {K:=F,H:=hf.hl,oq:=by simp[C],len:=by simp[hlen],cn:=by simp[hlen],ln:=aN _,pre:=(λi h=>rfl),fro:=List.nil_subset _
   own:=λi q o h1 h2 a=>by
    have:=(aM.mp h1).1
    rw[bI]at this
    have a:objs.length<=i:=a
    omega
   lent:=λi q o h1 h2 a=>by
    obtain⟨c,hc,d⟩:=go h2
    cases hc
    exact hl i _ _ (f h1).1 d
   inj:=λi j q r o o' h1 h2 a u d=>by
    have g1:=(f h1).1
    have g2:=(f h2).1
    rw[d]at g1
    exact(List.getElem?_inj (aM.mp g1).1 hn).mp (g1.trans g2.symm)
   dis:=λi q o p h1 h2 a u=>nomatch u
   obj:=λi x q o h1 h2 a=>by
    obtain⟨c,hc,d⟩:=go a
    obtain⟨z,A⟩:=f h2
    rw[A,hc]
    exact m i x _ _ h1 z d
   cob:=λi b q o h1 h2=>nomatch h2
   slots:=λ_ h=>nomatch h
   cslots:=λ_ h=>nomatch h
   stk:=λ_ h=>nomatch h}
 obtain⟨v,s',w,h⟩:=zfj (Γ:=Γ) (Hs:=Hs) B E rs W s J G rfl t Oz (Post:=λv s'=>∃D,HL [] s s' D (fF rs)/\cx (W.x D) (.int k) v r) (λp v o s' m' Q' O' y Φ' hm G' hp e=>⟨y,G'.H.up Oz,(YD hp e).mono (vK G'.fro)⟩)
 rw[jH hg]at w
 exact⟨v,s',w,h⟩
section
variable{W:List Nat}{s0 s:St}{n:Nat}{L:au}{p0 p1 p2 p3 p4 p5:Nat×ak}
theorem Ox(H:HL W s0 s (p0::L) n):p0.1<s.next:=(H.own p0 Y8).2.1
theorem Oy(H:HL W s0 s (p0::p1::L) n):p1.1<s.next:=(H.own p1 Y8).2.1
theorem OA(H:HL W s0 s (p0::p1::p2::L) n):p2.1<s.next:=(H.own p2 Y8).2.1
theorem OB(H:HL W s0 s (p0::p1::p2::p3::L) n):p3.1<s.next:=(H.own p3 Y8).2.1
theorem OC(H:HL W s0 s (p0::p1::p2::p3::p4::L) n):p4.1<s.next:=(H.own p4 Y8).2.1
theorem OD(H:HL W s0 s (p0::p1::p2::p3::p4::p5::L) n):p5.1<s.next:=(H.own p5 Y8).2.1
end
abbrev mY:=Int×Int×Rat
abbrev Ln:=Bool×Rat
section
variable{s:St}{U:Wd}{b0 b1 b2 b3 b4:Nat}{tv lv:Value}{cs:List Value}{l:List mY}{tb:List (List Ln)}{rest at_:Int}{sum:Rat}{r:Int}
theorem GR{I:zZ}(h:zx I)(hf:Fine s)(q:et s U)(h0:s.get b0=some (.cells [tv] 224))(h1:s.get b1=some (.cells [.int .i64 rest] 3))(h2:s.get b2=some (.cells [.int .i64 at_] 3))(m:s.get b3=some (.cells [.func (.func 213) #[] #[]] 151))(p:s.get b4=some (.cells cs 34))
 (v:b0<s.next) (w:b1<s.next) (y:b2<s.next) (z:b3<s.next) (A:b4<s.next) (hd:[b0,b1,b2,b3,b4].Nodup) (hv:ax U jw [lv] l) (t:ax U WE [tv] tb) (hs:ax U .rat cs sum) (u:mW l tb rest at_ sum=some r) (a:s.next+51585<=zA) :
 Rp U I 246 #[lv,.func (.func 253) #[] #[.pointer (some ⟨b0,0,none⟩),.pointer (some ⟨b1,0,none⟩),.pointer (some ⟨b2,0,none⟩),.pointer (some ⟨b3,0,none⟩),.pointer (some ⟨b4,0,none⟩)]] s 51585 (.int .i64) r:=by
 have e:=ax.mono (τ:=jw) (xJ (D:=[])) hv
 have d:=ax.mono (τ:=WE) (xJ (D:=[])) t
 have c:=ax.mono (τ:=.rat) (xJ (D:=[])) hs
 have j:fF [51585,806,4]=51585:=rfl
 rw[<-j]at a |-
 have f:=(GQ l tb rest at_ sum).trans u
 refine Rg h (HW.i h) hf q (Γ:=Γ2) (Hs:=NY) (g:=246) (k:=.i64) (objs:=[.cells [.sl 226 1 jX tb],.cells [.int .i64 rest],.cells [.int .i64 at_],.cells [.fn 213],.cells [.rat sum]]) (ps:=[.one (.sl 164 6 QD l),.clo 253 [.ptr 0 0,.ptr 1 0,.ptr 2 0,.ptr 3 0,.ptr 4 0]]) (rs:=[51585,806,4]) (bs:=[b0,b1,b2,b3,b4]) (cs:=[.cells [tv] 224,.cells [.int .i64 rest] 3,.cells [.int .i64 at_] 3,.cells [.func (.func 213) #[] #[]] 151,.cells cs 34]) rfl rfl ?_ hd ?_ ?_ Uz f a
 .intro i b o hb ho
  match i,hb,ho with
  |0,hb,ho=>cases hb;cases ho;exact⟨h0,v⟩
  |1,hb,ho=>cases hb;cases ho;exact⟨h1,w⟩
  |2,hb,ho=>cases hb;cases ho;exact⟨h2,y⟩
  |3,hb,ho=>cases hb;cases ho;exact⟨m,z⟩
  |4,hb,ho=>cases hb;cases ho;exact⟨p,A⟩
  |i+5,hb,ho=>cases hb
 .intro i x b o hx hb ho
  match i,hx,hb,ho with
  |0,hx,hb,ho=>cases hx;cases hb;cases ho;exact⟨_,_,rfl,bu.one d⟩
  |1,hx,hb,ho=>cases hx;cases hb;cases ho;exact⟨_,_,rfl,bu.one rfl⟩
  |2,hx,hb,ho=>cases hx;cases hb;cases ho;exact⟨_,_,rfl,bu.one rfl⟩
  |3,hx,hb,ho=>cases hx;cases hb;cases ho;exact⟨_,_,rfl,bu.one rfl⟩
  |4,hx,hb,ho=>cases hx;cases hb;cases ho;exact⟨_,_,rfl,bu.one c⟩
  |i+5,hx,hb,ho=>cases hb
 .exact⟨_,_,rfl,e,_,_,rfl,⟨_,rfl,_,_,rfl,⟨_,rfl,rfl⟩,_,_,rfl,⟨_,rfl,rfl⟩,_,_,rfl,⟨_,rfl,rfl⟩,_,_,rfl,⟨_,rfl,rfl⟩,_,_,rfl,⟨_,rfl,rfl⟩,rfl⟩,rfl⟩
end
noncomputable def Cr(l:List mY)(tb:List (List Ln)):Nat->Int->Rat->List Int->Option (List Int)
 |0,_,_,out=>some out
 |n+1,at_,sum,out=>(mW l tb n at_ sum).bind λx=>if x<0 then some []else(ae l x).bind λb=>(app out [x]).bind λa=>(qF sum b.2.2).bind λc=>Cr l tb n b.2.1 c a
noncomputable def te(S:Int×List mY)(tb:List (List Ln))(at_ bj:Int):Option (List Int):=if 0<=bj/\bj<=32 then Cr S.2 tb bj.toNat at_ 0 []else none
theorem d30:qt 30 400 [.rat,.rat] .rat λx=>qF x.1 x.2:=ES
theorem bind_some{α β:Type}{x:Option α}{f:α->Option β}{r:β}(h:x.bind f=some r):∃a,x=some a/\f a=some r:=Option.bind_eq_some_iff.mp h
theorem M7{s:St}{U:Wd}(e:et s U){a:Option Addr}{n cap:Nat}{l:List mY}(h:ax U jw [.slice a n cap] l){i:Int}{x:mY}(hi:ae l i=some x) :
 ∃b off c m,a=some ⟨b,off,none⟩/\0<=i/\i<n/\s.get b=some (.cells c 164)/\b<s.next/\zH c (off+i.toNat*6+0)=some (.int .i64 x.1)/\zH c (off+i.toNat*6+1)=some (.int .i64 x.2.1)/\y8 4 (xr (off+i.toNat*6+2) c)=some m/\ax U .rat m x.2.2:=by
 obtain⟨b,off,rfl,h0,h1⟩:=h.at e hi
 obtain⟨c,C,hg,hb,hc,g⟩:=h.cells e hi
 obtain⟨c1,r1,rfl,e1,f,r2,rfl,e2,d⟩:=g
 obtain rfl:c1=_:=e1
 obtain rfl:f=_:=e2
 have l4:r2.length=4:=ax.len (τ:=.rat) d
 refine⟨b,off,c,r2,rfl,h0,h1,hg,hb,W3 hc rfl,W3 hc rfl,zai hc ?_,d⟩
 rw[y7,yR]
 simp only[bY,cJ,eX,List.drop_zero]
 rw[aG Oz,dJ Oz]
set_option maxHeartbeats 4000000 in
set_option maxRecDepth 10000 in
theorem oV{I:zZ}(hI:zx I){s:St}(hf:Fine s){U:Wd}(hK:et s U){n:Int}{l:List mY}{tb:List (List Ln)}{at_ bj:Int}{sv tv:Value}(hS:cx U uG sv (n,l))(hT:cx U WE tv tb){r:List Int}(a:te (n,l) tb at_ bj=some r)(w:s.next+2000000<=zA) :
 Rp U I 212 #[sv,tv,.int .i64 at_,.int .i64 bj,.func (.func 213) #[] #[]] s 2000000 S3 r:=by
 obtain⟨⟨m0,m32⟩,a⟩:(0<=bj/\bj<=32)/\Cr l tb bj.toNat at_ 0 []=some r:=by
  unfold te at a
  split at a
  .next h=>exact⟨h,a⟩
  .cases a
 obtain⟨c0,rfl,c1,c2,rfl,h1,h2⟩:=hS
 obtain rfl:c1=_:=h1
 obtain⟨al,cl,Ll,rfl,hl⟩:=h2
 have hl:ax U jw [.slice al l.length cl] l:=⟨al,cl,Ll,rfl,hl⟩
 obtain⟨u,ct,Lt,e,ht⟩:=hT
 cases e
 have ht:ax U WE [.slice u tb.length ct] tb:=⟨u,ct,Lt,rfl,ht⟩
 rw[Nat.add_comm]at w
 have H:=hf.hl
 refine qz 5 (hI 212) Tryz.func212 rfl NC rfl ?_
 refine zh (QO H rfl Oz (λZ s1 H=>?_))
 refine KT (c:=[.slice u tb.length ct]) H rfl Oz (λb6 s1 H=>?_)
 refine zgU H rfl Oz (λb7 s1 H=>?_)
 refine KT (c:=[.func (.func 213) #[] #[]]) H rfl Oz (λb9 s1 H=>?_)
 refine zQ (zb (zh (zQ (zb (zh (KS (c:=[.bool false,.slice none 0 0,.bool false,.slice none 0 0]) SU rfl (xT H za1 Oz (λg s1 H=>?_))))))))
 refine xp (vs:=[.bool false,.slice none 0 0,.bool false,.slice none 0 0]) H Pa rfl rfl rfl rfl rfl Oz (λs1 H=>?_)
 refine zb (zO (zh (zg rfl (wi rfl rfl (by unfold xc;omega) (xT H zf3 Oz (λd s1 H=>?_))))))
 refine xp (vs:=[.int .i64 _]) H Lq rfl rfl rfl rfl rfl Oz (λs1 H=>?_)
 refine zb (yn (kM (λm F s1=>∃(G:FF) (a0:Option Addr) (n0 k0:Nat) (Y Φ:au) (cs:List Value) (at_:Int) (sum:Rat) (out:List Int) (mm d:Nat),F=fT G [(5,.pointer (some ⟨Z,0,none⟩)),(6,.pointer (some ⟨b6,0,none⟩)),(7,.pointer (some ⟨b7,0,none⟩)),(9,.pointer (some ⟨b9,0,none⟩)),(11,.slice a0 n0 k0),(12,.pointer (some ⟨g,0,none⟩)),(13,.pointer (some ⟨d,0,none⟩))]/\HL [] s s1 ((d,.cells [.int .i64 ((m:Int)-1)] 3)::(g,.cells cs 34)::(b9,.cells [.func (.func 213) #[] #[]] 151)::(b7,.cells [.int .i64 at_] 3)::(b6,.cells [.slice u tb.length ct] 224)::(Z,.cells [.int .i64 n,.slice al l.length cl] 166)::(Y++Φ)) mm/\mm+m*60000<=1930000/\m<=32/\ax (U.x Φ) .rat cs sum/\dk (U.x Φ) 3 1 (.int .i64) Y a0 n0 k0 out/\Cr l tb m at_ sum out=some r) ?_ bj.toNat _ _ ?_))
 rotate_left
 .refine⟨_,none,0,0,[],[],_,at_,0,[],6,d,slots ⟨rfl,rfl,rfl,rfl,rfl,rfl,rfl,trivial⟩,?_,by omega,by omega,BC,.nil rfl,a⟩
  rw[show((bj.toNat:Int)-1)=bj-1 by omega]
  exact H
 rintro m F s1 ⟨G,a0,n0,k0,Y,Φ,cs,at_,sum,out,mm,d,rfl,H,hm,hm32,b,ho,a⟩
 refine zO (zh (ye fu rfl H.own0 rfl (Hm rfl rfl (λh=>?_) (λh=>?_))))
 rotate_left
 .obtain rfl:m=0:=by omega
  cases a
  refine zb (yh rfl (qr (xD (xq (xF (zn (zh (zC rfl (yv rfl (zb (qE ?_)))))))))))
  refine xA (uL ?_)
  exact⟨_,H.up Oz,ho.rep Z8 Z8⟩
 obtain⟨j,rfl⟩:∃j,m=j+1:=⟨m-1,by omega⟩
 rw[Cr]at a
 obtain⟨x,hx,a⟩:=bind_some a
 have ej:(((j+1:Nat):Int)-1)=(j:Int):=by omega
 rw[ej]at H
 have hn9:[b6,d,b7,b9,g].Nodup:=by
  have hd:=H.dist
  simp only[List.pairwise_cons,aJ,forall_eq_or_imp]at hd
  simp only[List.nodup_cons,aJ,aY,or_false,not_or,List.nodup_nil,fA,not_false_eq_true]
  omega
 have hKx:et _ (U.x Φ):=hK.x H (D:=Φ) Z8
 refine zb (yI rfl (yq (zn (zO (yn (zh (zD zat rfl (ye rQ rfl H.own5 rfl (X2 (yo rfl NT rfl (jU (GR hI H.fine hKx H.own4 H.own0 H.own3 H.own2 H.own1 (OC H) (Ox H) (OB H) (OA H) (Oy H) hn9 (ax.mono (τ:=jw) xJ hl) (ax.mono (τ:=WE) xJ ht) b hx (H.rm Oz)) (λv9 s9 D9 Hc z=>?_))))))))))))
 obtain rfl:v9=_:=z
 have H:=H.callE Hc
 have H:=H.sub (List.sublist_append_left _ _)
 clear Hc
 refine yb rfl (zb (zO (zh (zg rfl (kw rfl rfl (λJ=>?_) (λJ=>?_))))))
 .rw[aG J]at a
  cases a
  refine zb (yI rfl (zh (zQ (zb (qE (qm (vi (qm (gg (vi (qm ?_)))))))))))
  refine xA (uL ?_)
  exact⟨[],(H.sub (List.nil_sublist _)).up Oz,none,0,[],rfl,.inr (.nil 0 rfl rfl),rfl,λk x h=>nomatch h⟩
 rw[aD J]at a
 obtain⟨⟨f,t,q⟩,hb,a⟩:=bind_some a
 obtain⟨T,S,a⟩:=bind_some a
 obtain⟨V,o,a⟩:=bind_some a
 dsimp only at o a
 refine zb (yh rfl (yq (zn (zh (zC rfl (zg rfl (xO (c:=[.int _ _]) H uW rfl rfl Oz (λb30 s10 H=>?_))))))))
 have hgt:=H.own0
 have H:=HL.mid2 (A:=[_,_,_,_,_,_]) (B:=[]) (C:=Y) (E:=Φ) H.drop0
 refine gV (X:=[[.int .i64 x]]) H ho S uW Xf rfl rfl rfl (qD hgt rfl) rfl Uz rfl (λk y h=>by obtain⟨rfl,rfl⟩:=GV h;rfl) Uz Oz (λa5 cap5 b31 c5 s38 H ho=>?_)
 refine yv rfl (zb ?_)
 have H:=(HL.mid (A:=[_]) (B:=[_,_,_,_,_,_]) (C:=Φ) H)
 have H:HL [] s _ (_::_::_::_::_::_::([_]++Φ)) _:=H
 have M:cs.length=4:=ax.len (τ:=.rat) b
 obtain⟨bb,ob,cb,mb,rfl,K,hb1,O,v,hcf,hct,hcm,Q⟩:=M7 hK hl hb
 have hm4:mb.length=4:=ax.len (τ:=.rat) Q
 refine uz [⟨0,0,.light,[2,6,9,13]⟩,⟨1,0,.light,[0,9,13]⟩,⟨2,2,.light,[0,9,13]⟩,⟨3,0,.light,[0,2,9,13]⟩,⟨4,14,.light,[0,9,13]⟩,⟨5,30,.light,[0,9,13]⟩,⟨6,62,.light,[0,9,13]⟩,⟨8,0,.light,[0,2,6]⟩,⟨9,256,.light,[0,2,6]⟩,⟨10,0,.light,[0,2,6,9]⟩,⟨11,1792,.light,[0,2,6]⟩,⟨12,3840,.light,[0,2,6]⟩,⟨13,7936,.light,[0,2,6]⟩,⟨7,127,.whole,[9,13]⟩,⟨14,255,.whole,[9,13]⟩,⟨15,32767,.whole,[]⟩] Z0 Z0 ?_
 have P:bb<zA:=by omega
 refine ve rfl rfl HK rfl H.own1 (H.lim1 Oz) (xH M) (za rfl rfl (zD zat rfl ⟨rfl,(yH rfl rfl rQ rfl H.own5 (H.lim5 Oz) rfl (za rfl rfl (zg rfl ⟨rfl,(za rfl rfl (yd ET rfl rfl K hb1 ⟨rfl,(za rfl rfl (zD AX rfl ⟨rfl,(ve rfl rfl HK rfl (H.old v O) P hcm (za rfl rfl (zD zat rfl ⟨rfl,(yH rfl rfl rQ rfl H.own5 (H.lim5 Oz) rfl (za rfl rfl (zg rfl ⟨rfl,(za rfl rfl (yd ET rfl rfl K hb1 ⟨rfl,(za rfl rfl (zD AW rfl ⟨rfl,?_⟩))⟩))⟩)))⟩)))⟩))⟩))⟩)))⟩))
 refine yH rfl rfl fu rfl (H.old v O) P hct ?_
 have N:∀p∈[Z,bb],p≠g:=λp hp=>by
  have h1:=H.dist
  have h2:=(H.own (g,.cells cs 34) Y8).2.2.2
  simp only[List.pairwise_cons,aJ,forall_eq_or_imp]at h1
  simp only[aJ,aY,or_false]at hp h2
  rcases hp with rfl|rfl<;>omega
 refine yw rfl rfl (yo rfl Ti rfl (jU (d30 hI (Fine.pr H.fine (Zp (OD H) (Zp (bL v H.le) F8))) ((hK.x H (D:=Φ) Z8).heap rfl (aN _)) (x:=(sum,q)) ⟨_,_,rfl,⟨_,rfl,b⟩,_,rfl,_,rfl,ax.mono (τ:=.rat) xJ Q⟩ o (H.rm Oz)) (λv9 s9 D9 Hc z=>?_)))
 have Hc:=HL.wider H.fine (aN _) (λ_ h=>bA _ h) Hc
 obtain⟨Φ,ku,kd,H⟩:=ZM (U:=U) (A:=[_]) [_,_,_,_,_,_] H Hc
 replace ho:=ho.mono ku
 obtain⟨cn,rfl,i⟩:=z
 replace i:=ax.mono (τ:=.rat) kd i
 have R:cn.length=4:=ax.len (τ:=.rat) i
 clear ku kd Hc b
 have H:HL [] s _ (_::_::_::_::_::_::([_]++Φ)) _:=H
 refine XF (vs:=cn) (fr:=[Z,bb]) H rfl rfl Pa rfl rfl (xo R) (ax.plain (τ:=.rat) i) (yM (by rw[R,M])) rfl N Oz (λs6 H=>?_)
 refine lr (vs:=[.int .i64 t]) (fr:=[]) H rfl rfl Lq rfl rfl rfl rfl rfl rfl V1 Oz (λs7 H=>?_)
 refine yS (xb (zn (zO (zh (ye fu rfl H.own0 rfl (zb (zW (xT H zf3 Oz (λb14 s8 H=>?_)))))))))
 refine xp (vs:=[.int .i64 (j:Int)]) H Lq rfl rfl rfl rfl rfl Oz (λs9 H=>?_)
 have H:=H.drop1
 refine zb (zn (zW (ye fu rfl H.own0 rfl (wi rfl rfl (by unfold xc;omega) (xp (vs:=[.int .i64 ((j:Int)-1)]) H Lq rfl rfl rfl rfl rfl Oz (λs9 H=>?_))))))
 refine zb (yB ?_)
 exact⟨j,by omega,_,_,_,_,[_],Φ,cn,t,V,T,_,b14,slots ⟨rfl,rfl,rfl,rfl,rfl,rfl,rfl,trivial⟩,H,by omega,by omega,i,ho,a⟩
section
variable{P:Program}{I:zZ}{N:Nat}{F:FF}{s s0:St}
theorem n7{b:Code}{Q:bk->Prop}(h:aI P I N b F s Q):aI P I N (.scope b) F s Q:=h
theorem n5{i:Nat}{Q:bk->Prop}(h:Q (.normal F s)):aI P I N (.label i) F s Q:=⟨.normal F s,h,1,λm hm=>by obtain⟨m,rfl⟩:∃k,m=k+1:=⟨m-1,by omega⟩;rfl⟩
theorem RE{ops:List Oper}{ix anc:Nat}{free:List Nat}{o:Oper}{rest:List an}{Q:FF->St->Prop}{W:List Nat}{L:au}{n:Nat}(hg:zH ops ix=some o)(hw:ym ops F o=true)(hf:yi ops F free=[])(H:HL W s0 s L n)
 (h:br P I o F s λb s'=>(∃L n,HL W s0 s' L n)/\yX P I ops rest b s' Q):yX P I ops (⟨ix,anc,.whole,free⟩::rest) F s Q:=by
 refine yw hg hw ?_
 rw[hf]
 refine br.mono h λb s' ⟨⟨L',n',H'⟩,hd⟩=>?_
 have e:({next:=s'.next,bar:=s.bar,prot:=s.prot,heap:=s'.heap}:St)=s':=by
  rw[show s.bar=s'.bar from H.bar.trans H'.bar.symm,show s.prot=s'.prot from H.prot.trans H'.prot.symm]
 rw[e]
 exact hd
end
noncomputable def zeJ(t w:Nat)(e:Ty)(p:Pv)(o:List Ob):Option (List e.T):=match p with
 | .one (.own j)=>match o[j]? with
  |some (.list t' w' b l)=>if h:t'=t/\w'=w/\b=e then some (jk h.2.2 l)else none
  |_=>none
 |_=>none
theorem Cq{I:zZ}(C:zx I){Γ:TypeId->Option Ty}{T:FuncId->Option eQ}{Hs:FuncId->List Hi}(E:QE I T){rs:List Nat}{g:FuncId}{ar:List Ty}{t w:Nat}{e:Ty}(L:Ws ar=true){s:St}(hf:Fine s){W:Wd}(J:et s W){vs:List Value}{x:Tp ar}(hx:u5 W ar vs x){r:List e.T}(hg:Nat.ble zy g=false)
 (M:Ga Γ T Hs rs g [] 0 (sf ar x) [] (zeJ t w e)=some r) (hroom:s.next+fF rs<=zA):∃v s',vr Tryz.prog I g ⟨vs⟩ s v s'/\∃a n cap D R,v=.slice a n cap/\HL [] s s' (D++R) (fF rs)/\dk (W.x R) t w e D a n cap r:=by
 have G:GX [] W s s ⟨[],[],0,0⟩ [] ⟨[],[]⟩ (λ_=>undef) 0 [] [] [] []:=
  {K:=J,H:=hf.hl,oq:=rfl,len:=rfl,cn:=aN _,ln:=aN _,pre:=(λi h=>by cases h),fro:=List.nil_subset _
   own:=λi q o h=>by cases h
   lent:=λi q o h=>by cases h
   inj:=λi j q r o o' h=>by cases h
   dis:=λi q o p _ h=>by cases h
   obj:=λi b q o h=>by cases h
   cob:=λi b q o h=>by cases h
   slots:=λ_ h=>nomatch h
   cslots:=λ_ h=>nomatch h
   stk:=λ_ h=>nomatch h}
 rw[<-jH (Q:=[]) hg]
 refine zfj (Γ:=Γ) (Hs:=Hs) C E rs W s M G rfl (J6 L (hx.mono xJ)) Oz ?_
 intro p v o s' m' Q' O' z Φ' hm G' hp c
 unfold zeJ at c
 split at c
 .next j=>
  split at c
  .next t' w' e' l ho=>
   split at c
   .next h=>
    obtain⟨rfl,rfl,rfl⟩:=h
    obtain rfl:=dD c
    obtain⟨q,m,hv,_⟩:=hp
    have u:j<O'.length:=by rw[G'.oq];exact(aM.mp m).1
    obtain⟨ob,f⟩:∃ob,O'[j]? = some ob:=⟨O'[j],aE u⟩
    obtain⟨a,cap,y,_,d⟩:=G'.obj j _ q ob ho m f
    rw[List.cons.injEq]at hv
    refine⟨a,l.length,cap,?_⟩
    rw[hv.1,y]
    cases ob with
    |none=>exact⟨[],z,rfl,G'.H.up Oz,d.mono (vK G'.fro)⟩
    |some ob=>
     obtain⟨A,B,k⟩:=eI (G'.own j q ob m f (cH _))
     refine⟨[(q.2,ob)],A++B,rfl,(G'.H.perm (by rw[k];exact List.perm_middle)).up Oz,d.mono (vK λp hp=>?_)⟩
     have h1:=G'.fro hp
     have h2:=G'.dis j q ob p (cH _) m f hp
     rw[k]at h1
     rcases aW.mp h1 with h1|h1
     .exact bJ _ h1
     .rcases aJ.mp h1 with h1|h1
      .rw[h1]at h2;exact absurd rfl h2
      .exact bA _ h1
   .cases c
  .cases c
 .cases c
theorem Au(x:(Int×List mY)×Int):Ga Γ2 nw (fa []) [3] 210 [] 0 (sf [uG,.int .i64] x) [] (zeJ 226 1 jX)=mR x.1 x.2:=by kernel_rfl
theorem Av{I:zZ}(d:zx I){s:St}(hf:Fine s){U:Wd}(e:et s U){S:Int×List mY}{v:Int}{c:Value}(f:cx U uG c S){t:List (List Ln)}(g:mR S v=some t)(b:s.next+3<=zA) :
 ∃w s',vr Tryz.prog I 210 #[c,.int .i64 v] s w s'/\∃a n cap D R,w=.slice a n cap/\HL [] s s' (D++R) 3/\dk (U.x R) 226 1 jX D a n cap t:=
 Cq d (Pd.i d) (ar:=[uG,.int .i64]) (rs:=[3]) (Γ:=Γ2) (Hs:=fa []) rfl hf e (vs:=[c,.int .i64 v]) (x:=(S,v)) ⟨_,_,rfl,f,_,rfl,rfl⟩ Uz ((Au (S,v)).trans g) b
abbrev ic:=List (List Ln)
structure iv(U:Wd)(es:List (au×Value))(ts:List ic):Prop where
 len:es.length=ts.length
 own:∀v,v<ts.length->∃a n k,(es.getD v E0).2=.slice a n k/\dk U 226 1 jX (es.getD v E0).1 a n k (ts.getD v [])
theorem wB{α:Type}{l:List α}{i j:Nat}{x d:α}(h:i<l.length):(l.set i x).getD j d=if j=i then x else l.getD j d:=by
 rw[aB,List.getElem?_set,aB]
 by_cases e:i=j
 .subst e;simp[h]
 .rw[aD e,aD (Ne.symm e)]
theorem iv.mono{U b:Wd}{es:List (au×Value)}{ts:List ic}(h:iv U es ts)(hs:cu U b):iv b es ts:=⟨h.len,λv hv=>by obtain⟨a,n,k,h1,h2⟩:=h.own v hv;exact⟨a,n,k,h1,h2.mono hs⟩⟩
theorem iv.set{U:Wd}{es:List (au×Value)}{ts:List ic}(h:iv U es ts){v:Nat}(hv:v<ts.length){D:au}{a:Option Addr}{n k:Nat}{t:ic}(ho:dk U 226 1 jX D a n k t):iv U (es.set v (D,.slice a n k)) (ts.set v t):=by
 refine⟨by rw[bR,bR];exact h.len,λu hu=>?_⟩
 rw[bR]at hu
 rw[wB (by rw[h.len];exact hv),wB hv]
 by_cases e:u=v
 .rw[aG e,aG e];exact⟨a,n,k,rfl,ho⟩
 .rw[aD e,aD e];exact h.own u hu
theorem rz(n:Nat):ke [Value.slice none 0 0] n=(List.replicate n E0).map Prod.snd:=by
 induction n with
 |zero=>rfl
 |succ n b=>rw[List.replicate_succ,List.map_cons,<-b];rfl
theorem iv.nil{U:Wd}(n:Nat):iv U (List.replicate n E0) (List.replicate n []):=by
 refine⟨by simp,λv hv=>?_⟩
 have e:(List.replicate n E0).getD v E0=E0:=by rw[aB,List.getElem?_replicate];split<;>rfl
 have e2:(List.replicate n ([]:ic)).getD v []=[]:=by rw[aB,List.getElem?_replicate];split<;>rfl
 rw[e,e2]
 exact⟨none,0,0,rfl,.nil rfl⟩
theorem lB(n:Nat):xz (List.replicate n E0)=[]:=by
 induction n with
 |zero=>rfl
 |succ n b=>rw[List.replicate_succ];exact b
theorem zaH{α:Type}{l:List α}{i:Int}{x d:α}(h:ae l i=some x):0<=i/\i.toNat<l.length/\l.getD i.toNat d=x:=by
 obtain⟨h0,h1,h2⟩:=kz h
 refine⟨h0,(aM.mp h2).1,?_⟩
 rw[aB,h2];rfl
theorem p9{U:Wd}{t w:Nat}{e:Ty}{D:au}{a:Option Addr}{n cap:Nat}{l:List e.T}(h:dk U t w e D a n cap l){i:Int}{x:e.T}(hi:ae l i=some x):∃b c C,a=some ⟨b,0,none⟩/\D=[(b,.cells c t)]/\0<=i/\i<n/\y8 w (xr (0+i.toNat*w) c)=some C/\ax U e C x:=by
 obtain⟨h0,h1,h2⟩:=kz hi
 obtain⟨hn,hw,L,g1,g2,d,f⟩:=h
 generalize hc:L.flatten=c at g2
 cases g2 with
 |nil=>omega
 |block b _ _ _ hl hcap=>
  subst hc
  exact⟨b,_,_,rfl,rfl,h0,by omega,gl d Oz,f _ _ h2⟩
section
variable{W:List Nat}{s0 s:St}{n:Nat}{p0 p1:Nat×ak}{R B Φ:au}{es:List (au×Value)}{a:Nat}
theorem HX{w:Value}(H:HL W s0 s ((p0::p1::(xz es++Φ))++(B++R)) n)(h:a<es.length)(he:es.getD a E0=E0):HL W s0 s (p0::p1::(xz (es.set a (B,w))++(Φ++R))) n:=by
 refine H.perm ?_
 have h1:=we h ((B,w):au×Value)
 have h2:es.set a E0=es:=by rw[<-he];exact WP h
 rw[h2]at h1
 refine List.Perm.append_left [p0,p1] (List.Perm.trans ?_ (h1.symm.append_right (Φ++R)))
 show((xz es++Φ)++(B++R)).Perm ((B++xz es)++(Φ++R))
 rw[bF,bF]
 exact((dG Φ B R).append_left _).trans (dG _ B _)
theorem GP{v:Value}(H:HL W s0 s (B++(p0::p1::(xz (es.set a E0)++R))) n)(h:a<es.length):HL W s0 s (p0::p1::(xz (es.set a (B,v))++R)) n:=by
 refine H.perm ?_
 have h1:=we h ((B,v):au×Value)
 refine(dG B [p0,p1] _).trans (List.Perm.append_left [p0,p1] ?_)
 have h2:=h1.symm.append_right R
 rw[bF]at h2
 exact h2
end
end Go.Proofs.YtocnbjjmmgolfaaGreat
