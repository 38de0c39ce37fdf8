/- Plain law: the fits of a broken box are valid: the cells. -/
import Derived.Test.YtocnbjjmmgolfaaGreatA30
import Derived.Test.YtocnbjjmmgolfaaGreatA35
import Derived.Test.YtocnbjjmmgolfaaGreatA31
import Derived.Test.YtocnbjjmmgolfaaGreatA27
import Derived.Test.YtocnbjjmmgolfaaGreatA32
import Derived.Test.YtocnbjjmmgolfaaGreatA29
set_option linter.unusedSimpArgs false
set_option linter.unusedVariables false
set_option linter.unusedSectionVars false
namespace Go.Proofs.YtocnbjjmmgolfaaGreat
open Go Go.M Go.Proofs.C14
section
variable{q q':List (Int×Int)}{pa pb:Pc}{va vb:Pl}{ea eb:Nat}{f:Fq}
theorem tB(b:bm pa)(c:bm pb)(hf:fD q q' pa pb va vb ea eb f):Rc pa pb f=some true:=by
 obtain⟨la,-⟩:=qB b
 obtain⟨lb,-⟩:=qB c
 obtain⟨na,nb,ua,ub,-,-,-,-,-,-,-,-,e⟩:=hf.ex
 obtain⟨h1,h2⟩:=hf.ed
 have g1:f.2.2.1=(ea:Int):=by rw[e]
 have g2:f.2.2.2.1=(eb:Int):=by rw[e]
 have a:f.2.2.2.2.1=1:=by rw[e]
 unfold Rc
 rw[la,lb,g1,g2,a,aG (aH Oz),aG (aH Oz),aG (aH Oz),aG (aH Oz),aG Uz]
 rfl
theorem Y7{n:Int}(h0:0<=n)(h1:n<8):JW n 4=some (n % 4):=by
 unfold JW
 have e:Int.tmod n 4=n % 4:=Int.tmod_eq_emod_of_nonneg h0
 have e2:Int.tmod (n % 4+4) 4=n % 4:=by rw[Int.tmod_eq_emod_of_nonneg Oz];omega
 rw[aD Uz,e,xd Oz,aA,aD Uz,e2]
theorem zgr(b:bm pa)(c:bm pb)(hf:fD q q' pa pb va vb ea eb f):sK pa pb f=some [((ea:Int),(eb:Int))]:=by
 obtain⟨la,-⟩:=qB b
 obtain⟨lb,-⟩:=qB c
 obtain⟨na,nb,ua,ub,-,-,-,-,-,-,-,-,e⟩:=hf.ex
 obtain⟨h1,h2⟩:=hf.ed
 have g1:f.2.2.1=(ea:Int):=by rw[e]
 have g2:f.2.2.2.1=(eb:Int):=by rw[e]
 have a:f.2.2.2.2.1=1:=by rw[e]
 unfold sK
 rw[la,lb,g1,g2,a]
 refine zl 1 (λk x=>x=((k:Int),if k=0 then []else [((ea:Int),(eb:Int))])) (λo=>o=_) Oz rfl ?_ ?_
 .rintro k x g hk rfl hg
  obtain rfl:k=0:=by omega
  rw[aG (show decide (((0:Nat):Int)<1)=true from rfl),xd (show((ea:Int)+((0:Nat):Int)).natAbs<_ by omega),aA,xd (show((eb:Int)-((0:Nat):Int)).natAbs<_ by omega),aA,show((4:Nat):Int)=4 from rfl,Y7 Oz Oz,aA,Y7 Oz Oz,aA]
  rw[show((ea:Int)+((0:Nat):Int)) % 4=ea by omega,show((eb:Int)-((0:Nat):Int)) % 4=eb by omega]
  exact hg _ rfl
 .rintro x g rfl
  rw[aD (show ¬decide (((1:Nat):Int)<1)=true by decide)]
  rfl
theorem IG(b:bm pa)(c:bm pb)(hf:fD q q' pa pb va vb ea eb f)(h:pa.2.2.2.1=[false,false,false,false])(i:pb.2.2.2.1=[false,false,false,false])(d:pa.2.2.2.2.1=[0,0,0,0])(e:pb.2.2.2.2.1=[0,0,0,0]):RS pa pb f=some true:=by
 obtain⟨h1,h2⟩:=hf.ed
 have f4:∀j:Nat,j<4->ae [false,false,false,false] (j:Int)=some false:=λj hj=>by
  have:j=0\/j=1\/j=2\/j=3:=by omega
  rcases this with rfl|rfl|rfl|rfl<;>rfl
 have m4:∀j:Nat,j<4->ae [(0:Int),0,0,0] (j:Int)=some 0:=λj hj=>by
  have:j=0\/j=1\/j=2\/j=3:=by omega
  rcases this with rfl|rfl|rfl|rfl<;>rfl
 unfold RS
 rw[zgr b c hf,aA,h,i,d,e]
 refine zl 1 (λk x=>x=(true,(k:Int))) (λo=>o=_) Oz rfl ?_ ?_
 .rintro k x g hk rfl hg
  obtain rfl:k=0:=by omega
  have a:ae [((ea:Int),(eb:Int))] ((0:Nat):Int)=some ((ea:Int),(eb:Int)):=rfl
  rw[aG (show decide (((0:Nat):Int)<([((ea:Int),(eb:Int))].length:Int))=true from rfl),a,aA]
  show(ae [(0:Int),0,0,0] (ea:Int)).bind _=_
  rw[m4 ea h1,aA,m4 eb h2,aA,f4 ea h1,aA,aD Uz,f4 eb h2,aA,aD Uz,aD Uz,zo (show 0<100000 by omega),aA]
  exact hg _ rfl
 .rintro x g rfl
  rw[aD (show ¬decide (((1:Nat):Int)<([((ea:Int),(eb:Int))].length:Int))=true by simp)]
end
section
variable{w h x y b r t l:Int}(hB:Bx w h x y b r t l){i k:Nat}(hik:i<k)(hk:k<4){pa pb:Pc}{va vb:Pl}{ea eb:Nat}{f:Fq}
include hB hik hk
theorem IK(m:bm pa)(o:bm pb)(hf:fD ((kX w h x y b r t l).getD i []) ((kX w h x y b r t l).getD k []) pa pb va vb ea eb f):RV pa pb f=some true:=by
 obtain⟨na,nb,p,q,ha,hb,v1,v2,I,J,-,-,e⟩:=hf.ex
 have kd:Kd 1:=⟨by decide,by decide⟩
 have g:SB 4 2:=⟨by decide,by decide⟩
 have v:SB 4 4:=⟨by decide,by decide⟩
 have c:SB 4 40:=⟨by decide,by decide⟩
 have j:SB 4 80:=⟨by decide,by decide⟩
 have he:=m.tol.1.add o.tol.1
 have A:=yE (m.tol.1.sm g) (o.tol.1.sm g)
 have dv:=SM (na:=na) (nb:=nb) v1 v2
 have E:f.2.2.2.2.2.1=fv na nb:=by rw[e]
 have F:f.2.2.2.2.2.2.1=y5 (fS na nb p q) (pa.2.2.2.2.2.1+pb.2.2.2.2.2.1,pa.2.2.2.2.2.1+pb.2.2.2.2.2.1):=by rw[e]
 have G:f.2.2.2.2.2.2.2=vx (fS na nb p q) (pa.2.2.2.2.2.1+pb.2.2.2.2.2.1,pa.2.2.2.2.2.1+pb.2.2.2.2.2.1):=by rw[e]
 have u:eV 1 (zU,((0:Rat),(0:Rat))):=⟨vO Xi,(QV.int (n:=0) (B:=360) Uz).up (k:=4),(QV.int (n:=0) (B:=360) Uz).up (k:=4)⟩
 have s:eV 1 (fv na nb,fS na nb p q):=⟨vO (Xj na nb),dv.1.le Uz,dv.2.le Uz⟩
 obtain⟨c1,c3,D⟩:=Y3 kd u m
 obtain⟨d1,d3,d4⟩:=Y3 kd s o
 have ap:=lD hB hik hk (e:= -(pa.2.2.2.2.2.1+pb.2.2.2.2.2.1)) (by have:=m.tol.2;have:=o.tol.2;grind) ha hb I J
 have H:=kJ (he.sm v)
 generalize pa.2.2.2.2.2.1+pb.2.2.2.2.2.1=a at *
 generalize fS na nb p q=d at *
 obtain⟨dd,al⟩:=nI kd he.neg D d4 Oz Oz
 have z:V2 4 4 (a,a):=⟨he,he⟩
 have lo:V2 4 40 (y5 d (a,a)):=V2.sub (C:=4) dv z
 have hi:V2 4 40 (vx d (a,a)):=V2.add (C:=4) dv z
 have sm:=V2.add lo hi
 have e1:Wn (y5 d (a,a)) (vx d (a,a))=some (vx (y5 d (a,a)) (vx d (a,a))):=by
  unfold Wn
  rw[yE (lo.1.sm c) (hi.1.sm c),yE (lo.2.sm c) (hi.2.sm c)]
  rfl
 have hs:Sm (Rat.divInt 1 2):=by decide
 have e2:I1 (vx (y5 d (a,a)) (vx d (a,a))) (Rat.divInt 1 2)=some d:=by
  unfold I1
  rw[xK (sm.1.sm j) hs,aA,xK (sm.2.sm j) hs,aA]
  have half:Rat.divInt 1 2+Rat.divInt 1 2=1:=by decide +kernel
  refine congrArg some (Prod.ext ?_ ?_)
  .show(d.1-a+(d.1+a))*Rat.divInt 1 2=d.1
   grind
  .show(d.2-a+(d.2+a))*Rat.divInt 1 2=d.2
   grind
 unfold RV
 rw[E,F,G,e1,aA,Sb,aA,e2,aA,eH.1,aA]
 show((JV pa (zU,((0:Rat),(0:Rat)))).bind _)=_
 rw[c1,aA,d1,aA,A,aA,H,aA,al,aA,ap]
end
section
variable{q q':List (Int×Int)}(hq:q.length=4)(hq':q'.length=4){pa pb:Pc}{va vb:Pl}{ea eb:Nat}{f:Fq}
include hq hq'
theorem IJ(i:bm pa)(j:bm pb)(hf:fD q q' pa pb va vb ea eb f):RU pa pb f=some (f.2.2.2.2.2.2.1,f.2.2.2.2.2.2.2,true):=by
 obtain⟨na,nb,t,u,ha,hb,v1,v2,V,W,-,-,e⟩:=hf.ex
 obtain⟨h1,h2⟩:=hf.ed
 obtain⟨la,-,P,w,-⟩:=qB i
 obtain⟨lb,-,Q,y,-⟩:=qB j
 have K:∀{k:Nat},k<2->∀{p r:Nat},p=(ea+k) % 4->r=(eb+1-k) % 4->∀(l:p<pa.2.2.1.length) (m:r<pb.2.2.1.length),y5 (ah pa.2.2.1[p]) (yx (fv na nb) (ah pb.2.2.1[r]))=fS na nb t u:=λ{k} hk {p r} e1 e2 l m=>JE hq hq' ha hb V W h1 h2 hf.one hk e1 e2 l m
 have g1:f.2.2.1=(ea:Int):=by rw[e]
 have g2:f.2.2.2.1=(eb:Int):=by rw[e]
 have L:f.2.2.2.2.1=1:=by rw[e]
 have M:f.2.2.2.2.2.1=fv na nb:=by rw[e]
 have N:f.2.2.2.2.2.2.1=y5 (fS na nb t u) (pa.2.2.2.2.2.1+pb.2.2.2.2.2.1,pa.2.2.2.2.2.1+pb.2.2.2.2.2.1):=by rw[e]
 have O:f.2.2.2.2.2.2.2=vx (fS na nb t u) (pa.2.2.2.2.2.1+pb.2.2.2.2.2.1,pa.2.2.2.2.2.1+pb.2.2.2.2.2.1):=by rw[e]
 have st:=tB i j hf
 have F:=vO (Xj na nb)
 have ut:FI (fv na nb)=some true:=by
  obtain⟨d,A,s,U⟩:=Rh (Xj na nb) Uz
  rw[(Kn A ⟨s.1.le Uz,s.2.le Uz⟩).1,U]
 have n:SB 4 2:=⟨by decide,by decide⟩
 have h:SB 4 4:=⟨by decide,by decide⟩
 have b:SB 4 36:=⟨by decide,by decide⟩
 have c:SB 4 40:=⟨by decide,by decide⟩
 have he:=i.tol.1.add j.tol.1
 have e0:0<=pa.2.2.2.2.2.1+pb.2.2.2.2.2.1:=by have:=i.tol.2;have:=j.tol.2;grind
 have H:=yE (i.tol.1.sm n) (j.tol.1.sm n)
 have dv:=SM (na:=na) (nb:=nb) v1 v2
 generalize pa.2.2.2.2.2.1+pb.2.2.2.2.2.1=a at *
 generalize fS na nb t u=d at *
 have ev:V2 4 4 (a,a):=⟨he,he⟩
 have lo:V2 4 40 (y5 d (a,a)):=V2.sub (C:=4) dv ev
 have hi:V2 4 40 (vx d (a,a)):=V2.add (C:=4) dv ev
 have le:(pa.2.2.1.map ah).length=4:=by rw[bI];exact la
 have S:(pb.2.2.1.map ah).length=4:=by rw[bI];exact lb
 have D:∀z:Rat,¬decide (0<kV z z)=true:=λz q=>Rat.lt_irrefl (cN.mp (cO q))
 have E:∀z:Rat,¬decide (kV z z<0)=true:=λz q=>Rat.lt_irrefl (fm.mp (cO q))
 rw[N,O]
 unfold RU
 rw[st,aA,aD Uz,g1,g2,L,M,ut,aA,aD Uz,P,aA,Q,aA,H,aA,xd Uz,aA]
 refine zl 2 (λk x=>x.1=(k:Int)/\(k=0\/x.2=(d.1,d.2,d.1,d.2))) (λo=>o=_) Oz ⟨rfl,.inl rfl⟩ ?_ ?_
 .rintro k ⟨x0,x1,x2,x3,x4⟩ g hk ⟨rfl,hx⟩ hg
  have A:JW ((ea:Int)+k) 4=some (((ea+k) % 4:Nat):Int):=by
   rw[Y7 Oz Oz]
   exact congrArg some Oz
  have s:JW ((eb:Int)+1-k) 4=some (((eb+1-k) % 4:Nat):Int):=by
   rw[Y7 Oz Oz]
   exact congrArg some Oz
  have l:(ea+k) % 4<pa.2.2.1.length:=by omega
  have m:(eb+1-k) % 4<pb.2.2.1.length:=by omega
  have X:=w _ (aL l)
  have G:=y _ (aL m)
  have Y:ae (pa.2.2.1.map ah) (((ea+k) % 4:Nat):Int)=some (ah pa.2.2.1[(ea+k) % 4]):=by rw[zu V4,List.getElem_map]
  have Z:ae (pb.2.2.1.map ah) (((eb+1-k) % 4:Nat):Int)=some (ah pb.2.2.1[(eb+1-k) % 4]):=by rw[zu V4,List.getElem_map]
  have v:=K hk rfl rfl l m
  generalize pa.2.2.1[(ea+k) % 4]=c1 at *
  generalize pb.2.2.1[(eb+1-k) % 4]=B at *
  have T:=u7 F (kN G) ⟨by decide,by decide⟩ ⟨by decide,by decide⟩ ⟨by decide,by decide⟩
  have u2:=V2.rot F (kN G)
  have e1:=JZ (kN X) u2 ⟨by decide,by decide⟩ ⟨by decide,by decide⟩
  rw[v]at e1
  rw[aG (aH (by show(k:Int)<1+1;omega)),xd (show((ea:Int)+(k:Int)).natAbs<_ by omega),aA,xd (show((eb:Int)+1).natAbs<_ by omega),aA,xd (show((eb:Int)+1-(k:Int)).natAbs<_ by omega),aA,le,S]
  rw[show((4:Nat):Int)=4 from rfl,A,aA,Y,aA,s,aA,Z,aA,jA T,aA,e1,aA]
  have R:k=0\/k=1:=by omega
  rcases R with rfl|rfl
  .rw[aG (show decide (((0:Nat):Int)=0)=true from rfl),zo (show 0<100000 by omega),aA]
   exact hg _ ⟨rfl,.inr rfl⟩
  .have hx:=hx.resolve_left Uz
   cases hx
   have c1:FM d.1 d.1=some d.1:=by unfold FM;rw[yW (dv.1.sm b) (dv.1.sm b),aA,aD (E _)]
   have B:I2 d.1 d.1=some d.1:=by unfold I2;rw[yW (dv.1.sm b) (dv.1.sm b),aA,aD (D _)]
   have I:FM d.2 d.2=some d.2:=by unfold FM;rw[yW (dv.2.sm b) (dv.2.sm b),aA,aD (E _)]
   have J:I2 d.2 d.2=some d.2:=by unfold I2;rw[yW (dv.2.sm b) (dv.2.sm b),aA,aD (D _)]
   rw[aD (show ¬decide (((1:Nat):Int)=0)=true by decide)]
   show((FM d.1 d.1).bind _)=_
   rw[c1,aA,B,aA,I,aA,J,aA,zo (show 1<100000 by omega),aA]
   exact hg _ ⟨rfl,.inr rfl⟩
 .rintro⟨x0,x1,x2,x3,x4⟩ g ⟨rfl,hx⟩
  have hx:=hx.resolve_left Uz
  cases hx
  have p1:¬decide (0<kV (y5 d (a,a)).1 (vx d (a,a)).1)=true:=λq=>by
   have:=cN.mp (cO q)
   have:d.1+a<d.1-a:=this
   grind
  have p2:¬decide (0<kV (y5 d (a,a)).2 (vx d (a,a)).2)=true:=λq=>by
   have:=cN.mp (cO q)
   have:d.2+a<d.2-a:=this
   grind
  have e1:ZA (d.1,d.2) (a,a)=some (y5 d (a,a)):=JZ dv ev b h
  have e2:Wn (d.1,d.2) (a,a)=some (vx d (a,a)):=by
   unfold Wn
   rw[yE (dv.1.sm b) (he.sm h),yE (dv.2.sm b) (he.sm h)]
   rfl
  rw[aD (show ¬decide (((2:Nat):Int)<1+1)=true by decide)]
  show((ZA (d.1,d.2) (a,a)).bind _)=_
  rw[e1,aA]
  show((Wn (d.1,d.2) (a,a)).bind _)=_
  rw[e2,aA,yW (lo.1.sm c) (hi.1.sm c),aA,aD p1,yW (lo.2.sm c) (hi.2.sm c),aA,aD p2]
end
theorem oF{a b c:Int×Int}:∀n:Nat,zX (zL (k7 n a) (k7 n c)) (zL (k7 n b) (k7 n c))=zX (zL a c) (zL b c)
 |0=>rfl
 |n+1=>by
  have:=(zeE (a:=k7 n a) (b:=k7 n b) (c:=k7 n c) (d:=(0,0))).2.1
  exact this.trans (oF n)
theorem oE{n:Nat}{u a b c:Int×Int}:zX (zL (bz n u a) (bz n u c)) (zL (bz n u b) (bz n u c))=zX (zL a c) (zL b c):=(zex (d:=(0,0))).2.1.trans (oF n)
theorem Yi{p:Pc}(kp:bm p){k:Nat}(hk:k<4):tq p (k:Int)=some (zL (p.2.2.1.getD ((k+1) % 4) (0,0)) (p.2.2.1.getD k (0,0)))/\Nr 24 (zL (p.2.2.1.getD ((k+1) % 4) (0,0)) (p.2.2.1.getD k (0,0))):=by
 obtain⟨lp,-,-,c,-⟩:=qB kp
 have a:=c _ (aL (show k<p.2.2.1.length by omega))
 have b:=c _ (aL (show(k+1) % 4<p.2.2.1.length by omega))
 rw[<-zp (d:=(0,0)) (show k<p.2.2.1.length by omega)]at a
 rw[<-zp (d:=(0,0)) (show(k+1) % 4<p.2.2.1.length by omega)]at b
 have d:=Nr.sub b a
 refine⟨?_,d⟩
 obtain⟨d1,d2⟩:=d
 have i1:ae p.2.2.1 (k:Int)=some (p.2.2.1.getD k (0,0)):=by rw[zu Oz,zp Oz]
 have i2:ae p.2.2.1 (((k+1) % 4:Nat):Int)=some (p.2.2.1.getD ((k+1) % 4) (0,0)):=by rw[zu Oz,zp Oz]
 generalize p.2.2.1.getD k (0,0)=c1 at *
 generalize p.2.2.1.getD ((k+1) % 4) (0,0)=c2 at *
 have t1:Int.tmod (k:Int) 4=k:=by rw[Int.tmod_eq_emod_of_nonneg Oz];omega
 have t2:Int.tmod ((k:Int)+4) 4=k:=by rw[Int.tmod_eq_emod_of_nonneg Oz];omega
 have t3:Int.tmod ((k:Int)+1) 4=((k+1) % 4:Nat):=by rw[Int.tmod_eq_emod_of_nonneg Oz];omega
 unfold tq
 rw[lp,show((4:Nat):Int)=4 from rfl,aD Uz,t1,xd Oz,aA,aD Uz,t2,i1,aA,xd Oz,aA,aD Uz,t3,i2,aA]
 unfold zL at d1 d2
 dsimp only at d1 d2
 rw[xd Oz,aA,xd Oz,aA]
 rfl
theorem r8{d:Int×Int}(h:Nr 24 d):0<=zX d d/\zX d d<=1152/\(d.1*d.1).natAbs<=576/\(d.2*d.2).natAbs<=576:=by
 obtain⟨h1,h2⟩:=h
 have a:=eE h1 h1
 have b:=eE h2 h2
 rw[<-dW]at a b
 have b1:0<=d.1*d.1:=by
  rcases Int.le_total 0 d.1 with g|g
  .exact Int.mul_nonneg g g
  .have:=Int.mul_nonneg (show 0 <= -d.1 by omega) (show 0 <= -d.1 by omega);grind
 have b2:0<=d.2*d.2:=by
  rcases Int.le_total 0 d.2 with g|g
  .exact Int.mul_nonneg g g
  .have:=Int.mul_nonneg (show 0 <= -d.2 by omega) (show 0 <= -d.2 by omega);grind
 unfold zX
 refine⟨by omega,by omega,by omega,by omega⟩
theorem zgq{p:Pc}(kp:bm p){k:Nat}(hk:k<4):tf p (k:Int)=some (zX (zL (p.2.2.1.getD ((k+1) % 4) (0,0)) (p.2.2.1.getD k (0,0))) (zL (p.2.2.1.getD ((k+1) % 4) (0,0)) (p.2.2.1.getD k (0,0)))):=by
 obtain⟨e,n⟩:=Yi kp hk
 obtain⟨s1,s2,s3,s4⟩:=r8 n
 unfold tf
 rw[e,aA]
 generalize zL (p.2.2.1.getD ((k+1) % 4) (0,0)) (p.2.2.1.getD k (0,0))=d at *
 rw[xd Oz,aA,xd Oz,aA,xd (by unfold zX at s1 s2;omega),aA]
 rfl
theorem zgp{p:Pc}(kp:bm p){k:Nat}(hk:k<4):tg p (k:Int)=some (ah (zL (p.2.2.1.getD ((k+1) % 4) (0,0)) (p.2.2.1.getD k (0,0)))):=by
 obtain⟨e,n⟩:=Yi kp hk
 unfold tg
 rw[e,aA,wF (n.le (M:=10000) Uz),aA]
theorem rY{n:Int}(h0:0<n)(h1:n<10000):Sm (qI n)⁻¹:=by
 have e1:(qI n).num=n:=Rat.num_intCast n
 have e2:(qI n).den=1:=Rat.den_intCast n
 show(Rat.inv (qI n)).num.natAbs<500000000/\(Rat.inv (qI n)).den<500000000
 unfold Rat.inv
 split
 .omega
 .split
  .exact⟨by show((qI n).den:Int).natAbs<_;omega,by show(qI n).num.natAbs<_;omega⟩
  .omega
theorem oG{d:Int×Int}(h:zX d d=0):d=(0,0):=by
 unfold zX at h
 have c:∀x:Int,0<=x*x:=λx=>by
  rcases Int.le_total 0 x with g|g
  .exact Int.mul_nonneg g g
  .have:=Int.mul_nonneg (show 0 <= -x by omega) (show 0 <= -x by omega);grind
 have a:=c d.1
 have b:=c d.2
 have e1:d.1*d.1=0:=by omega
 have e2:d.2*d.2=0:=by omega
 rw[Int.mul_eq_zero]at e1 e2
 exact Prod.ext Oz Oz
theorem Ar{p:Pc}(kp:bm p){k:Nat}(hk:k<4):0<zX (zL (p.2.2.1.getD ((k+1) % 4) (0,0)) (p.2.2.1.getD k (0,0))) (zL (p.2.2.1.getD ((k+1) % 4) (0,0)) (p.2.2.1.getD k (0,0))):=by
 have s:=(r8 (Yi kp hk).2).1
 have ne:zX (zL (p.2.2.1.getD ((k+1) % 4) (0,0)) (p.2.2.1.getD k (0,0))) (zL (p.2.2.1.getD ((k+1) % 4) (0,0)) (p.2.2.1.getD k (0,0)))≠0:=by
  intro h
  have z:=oG h
  obtain⟨a,b,c,d,e,-,f⟩:=kp.quad.ex
  unfold jc at f
  simp only[aF,bB,bO]at f
  obtain⟨⟨⟨⟨⟨⟨⟨⟨i,-⟩,j⟩,-⟩,l⟩,-⟩,m⟩,-⟩,-⟩:=f
  rw[e]at z
  have key:∀{x y w:Int×Int},zL y x=(0,0)->zf x y w=0:=λ{x y w} g=>by unfold zf;rw[g];unfold zJ;grind
  have:k=0\/k=1\/k=2\/k=3:=by omega
  rcases this with rfl|rfl|rfl|rfl
  .have z:zL b a=(0,0):=z
   exact i (key z)
  .have z:zL c b=(0,0):=z
   exact j (key z)
  .have z:zL d c=(0,0):=z
   exact l (key z)
  .have z:zL a d=(0,0):=z
   exact m (key z)
 omega
theorem B8{U V:Int×Int}(e:Nr 24 U)(m:Nr 24 V){tn:Q2}(hv:ah V=yx tn (ah U))(he:zX U U=zX V V)(h0:0<zX U U):B7 (ah U) (ah V)=some (tn,0):=by
 obtain⟨-,m1,-,-⟩:=r8 e
 have c:=e.le (M:=5000) Uz
 have d:=m.le (M:=5000) Uz
 have n:(qI (zX U U)).num=zX U U:=Rat.num_intCast _
 have a:Sm (qI (zX U U)):=Xm Oz
 have sg:yz (qI (zX U U)).num 0≠0:=by rw[n];unfold yz;split<;>omega
 have bd:∀{x y:Int},x.natAbs<=24->y.natAbs<=24->(x*y).natAbs<=576:=λh g=>by
  have:=eE h g
  rw[<-dW]at this
  omega
 obtain⟨f,i⟩:=e
 obtain⟨j,k⟩:=m
 have k1:=bd f j
 have k2:=bd i k
 have k3:=bd f k
 have k4:=bd i j
 have r:Sm (qI (zX U V)):=Xm (by unfold zX;omega)
 have q:Sm (qI (zJ U V)):=Xm (by unfold zJ;omega)
 have b:qI (zX U U)≠0:=λg=>by
  have:=congrArg Rat.num g
  rw[n]at this
  have:zX U U=0:=this
  omega
 have v1:(V.1:Rat)=tn.1*(U.1:Rat)-tn.2*(U.2:Rat):=congrArg Prod.fst hv
 have v2:(V.2:Rat)=tn.2*(U.1:Rat)+tn.1*(U.2:Rat):=congrArg Prod.snd hv
 have l:qI (zX U U)=(U.1:Rat)*U.1+(U.2:Rat)*U.2:=by unfold zX qI;rw[Rat.intCast_add,Rat.intCast_mul,Rat.intCast_mul]
 have p:qI (zX U V)=tn.1*qI (zX U U):=by
  rw[l]
  unfold zX qI
  rw[Rat.intCast_add,Rat.intCast_mul,Rat.intCast_mul,v1,v2]
  grind
 have o:qI (zJ U V)=tn.2*qI (zX U U):=by
  rw[l]
  unfold zJ qI
  rw[Rat.intCast_sub,Rat.intCast_mul,Rat.intCast_mul,v1,v2]
  grind
 have d1:Gc (qI (zX U V)) (qI (zX U U))=some tn.1:=by
  unfold Gc
  rw[aG ⟨r,a,rY h0 Oz,b⟩,p,Rat.mul_assoc,Rat.mul_inv_cancel _ b,Rat.mul_one]
 have d2:Gc (qI (zJ U V)) (qI (zX U U))=some tn.2:=by
  unfold Gc
  rw[aG ⟨q,a,rY h0 Oz,b⟩,o,Rat.mul_assoc,Rat.mul_inv_cancel _ b,Rat.mul_one]
 unfold B7
 rw[Yh c c,aA,Yh d d,<-he,aA,Yy a,aA,aD (by simpa using sg),aA,aD (by simpa using sg),jG a a,aA,aD Y8,Yh c d,aA,d1,aA,jz c d,aA,d2,aA]
def FW(l:List Ed):Nat->List Ed->Nat->Prop
 |a,[],v=>a=v
 |a,c::r,v=>c.fr=a/\c∈l/\FW l c.to r v
theorem FW.app{l:List Ed}:∀{a b c:Nat} {r s:List Ed},FW l a r b->FW l b s c->FW l a (r++s) c
 |_,_,_,[],_,h,g=>by obtain rfl:_=_:=h;exact g
 |_,_,_,_::_,_,⟨h1,h2,d⟩,g=>⟨h1,h2,FW.app d g⟩
theorem PR.fw{l:List Ed}:∀{v u:Nat} {r:List Ed},PR l v r u->FW l u r.reverse v
 |v,u,[],h=>by obtain rfl:v=u:=h;exact rfl
 |v,u,c::r,⟨h1,h2,a⟩=>by rw[List.reverse_cons];exact(PR.fw a).app ⟨rfl,h2,h1⟩
theorem sB:∀r:List Ed,wt r.reverse=wt r
 | []=>rfl
 |c::r=>by rw[List.reverse_cons,ZB,sB r,wt,wt,wt,Rat.add_zero,Rat.add_comm]
def bf(l:List Ed):Nat->Nat->Rat
 |0,_=>0
 |k+1,v=>((l.filter λc=>c.to=v).map λc=>c.m+bf l k c.fr).foldl fe (bf l k v)
theorem zgj{l:List Ed}:∀(k v:Nat),∃r u,PR l v r u/\r.length<=k/\bf l k v=wt r
 |0,v=>⟨[],v,rfl,aN _,rfl⟩
 |k+1,v=>by
  rw[bf]
  rcases(uh ((l.filter λc=>c.to=v).map λc=>c.m+bf l k c.fr) (bf l k v)).2 with h|h
  .obtain⟨r,u,h1,h2,a⟩:=zgj k v
   exact⟨r,u,h1,by omega,by rw[h,a]⟩
  .obtain⟨c,hc,e⟩:=List.mem_map.mp h
   obtain⟨hc,b⟩:=List.mem_filter.mp hc
   obtain⟨r,u,h1,h2,a⟩:=zgj k c.fr
   exact⟨c::r,u,⟨cO b,hc,h1⟩,by simp;omega,by rw[<-e,a,wt]⟩
theorem SC{l:List Ed}:∀{k v u:Nat} {r:List Ed},PR l v r u->r.length<=k->bf l k v<=wt r
 |0,v,u,r,h,a=>by
  obtain rfl:r=[]:=bV.mp Oz
  exact dH
 |k+1,v,u,[],h,a=>by
  rw[bf]
  exact dP (uh _ _).1.1 (SC (l:=l) (k:=k) (v:=v) (r:=[]) (u:=v) rfl Y8)
 |k+1,v,u,c::r,⟨h1,h2,b⟩,a=>by
  rw[bf]
  refine dP ((uh _ _).1.2 (c.m+bf l k c.fr) (List.mem_map.mpr ⟨c,List.mem_filter.mpr ⟨h2,aH h1⟩,rfl⟩)) ?_
  rw[wt]
  exact Rat.add_le_add_left.mpr (SC b (by simpa using a))
theorem PR.lt{l:List Ed}{n:Nat}(hn:∀c∈l,c.fr<n/\c.to<n):∀{r:List Ed} {v w:Nat},v<n->PR l v r w->w<n
 | [],v,w,h,g=>by obtain rfl:v=w:=g;exact h
 |c::r,v,w,_,⟨_,h2,a⟩=>PR.lt hn (hn c h2).1 a
theorem HH{l:List Ed}{n:Nat}(hn:∀c∈l,c.fr<n/\c.to<n)(h:∀v r,v<n->FW l v r v->r.length<=n->r≠[]->0<=wt r):∃y,eu l y:=by
 refine⟨bf l (n-1),λc hc=>?_⟩
 obtain⟨r,u,h1,h2,m⟩:=zgj (l:=l) (n-1) c.fr
 obtain⟨hf,i⟩:=hn c hc
 have hp:PR l c.to (c::r) u:=⟨rfl,hc,h1⟩
 rw[m,Rat.add_comm]
 show _<=wt (c::r)
 by_cases hl:r.length+1<=n-1
 .exact SC hp hl
 have mem:∀(r:List Ed) (v:Nat),v<n->PR l v r u->∀w∈vs v r,w<n:=by
  intro r
  induction r with
  |nil=>intro v hv _ w hw;rw[bC.mp hw];exact hv
  |cons c r o=>
   intro v hv hp w hw
   rcases aJ.mp hw with rfl|hw
   .exact hv
   .exact o c.fr (hn c hp.2.1).1 hp.2.2 w hw
 have f:¬(vs c.to (c::r)).Nodup:=λf=>by
  have:=QX f (t:=List.range n) λw hw=>dX.mpr (mem (c::r) c.to i hp w hw)
  rw[zen,List.length_range]at this
  simp only[aU]at this
  omega
 obtain⟨w,a,b,d,e,g1,g2,k,g⟩:=hp.twice f
 have hb:0<b.length:=List.length_pos_iff.mpr g
 have el:=congrArg List.length e
 simp only[aQ,aU]at el
 have hw:w<n:=PR.lt hn i g1
 have j:=h w b.reverse hw (PR.fw g2) (by rw[List.length_reverse];omega) (by simpa using g)
 rw[sB]at j
 refine dP (SC (g1.app k) (by rw[aQ];omega)) ?_
 rw[e,ZB,ZB,ZB]
 refine Rat.add_le_add_left.mpr ?_
 have:=Yc (c:=wt d) j
 rw[Rat.zero_add]at this
 exact this
abbrev Lb:=Bool×Rat
section
variable{n d B:Nat}{L:List Bd}(hn:0<n/\n<=4)(hL:L.length<=60)(hi:∀c∈L,(0<=c.1/\c.1<(n:Int)/\0<=c.2.1/\c.2.1<(n:Int))/\QV d B c.2.2)(hs:SB d (B*8))
structure LnP(L:List Bd)(d B v k a:Nat)(p:Lb):Prop where
 way:p.1=true->∃r,FW (L.map bU) a r v/\r.length=k/\wt r=p.2
 least:∀r,FW (L.map bU) a r v->r.length=k->p.1=true/\p.2<=wt r
 num:QV d (B*k) p.2
structure fL(L:List Bd)(n d B v k:Nat)(w:List Lb):Prop where
 len:w.length=n
 at':∀a,a<n->LnP L d B v k a (w.getD a (false,0))
theorem Xx{α:Type}{l:List α}{i j:Nat}{x e:α}(h:i<l.length):(zM l i x).getD j e=if j=i then x else l.getD j e:=by
 rw[yQ]
 exact wB h
theorem xm{α:Type}{l:List α}{i:Nat}{e:α}(h:i<l.length):ae l (i:Int)=some (l.getD i e):=by rw[zu h,zp h]
theorem Hy{d B:Nat}:QV d B 0:=⟨0,by rw[Rat.zero_mul];rfl,by simp⟩
theorem WQ{d B C:Nat}(h:SB d B)(g:C<=B):SB d C:=⟨h.1,cD (cI _ Oz) h.2⟩
include hn in
omit hL hi hs in
theorem Aw{v:Nat}(hv:v<n):∃g,mR ((n:Int),L) (v:Int)=some [g]/\fL L n d B v 0 g:=by
 have b:v<(List.replicate n ((false,0):Lb)).length:=by rw[dE];exact hv
 unfold mR
 dsimp only
 rw[aG ⟨by omega,rfl,by omega⟩,Int.toNat_natCast,xm (e:=(false,0)) b]
 refine⟨_,rfl,by rw[y9,dE],λa ha=>?_⟩
 rw[Int.toNat_natCast,Xx b]
 have f:∀j,(List.replicate n ((false,0):Lb)).getD j (false,0)=(false,0):=λj=>by
  rw[aB,List.getElem?_replicate];split<;>rfl
 rw[f,f]
 by_cases c:a=v
 .subst c
  rw[aG rfl]
  exact⟨λ_=>⟨[],rfl,rfl,rfl⟩,λr h b=>by
   obtain rfl:r=[]:=bV.mp b
   exact⟨rfl,dH⟩,Hy⟩
 .rw[aD c]
  exact⟨λh=>(nomatch h),λr h b=>by
   obtain rfl:r=[]:=bV.mp b
   exact absurd h c,Hy⟩
include hn hL hi hs in
theorem lM{v k:Nat}(hk:k<n){w:List Lb}(hw:fL L n d B v k w):∃w',td ((n:Int),L) w=some w'/\fL L n d B v (k+1) w':=by
 have S:∀j,j<=8->SB d (B*j):=λj hj=>WQ hs (cI _ hj)
 have U:∀j,(List.replicate n ((false,0):Lb)).getD j (false,0)=(false,0):=λj=>by
  rw[aB,List.getElem?_replicate];split<;>rfl
 unfold td
 dsimp only
 rw[aG ⟨by omega,rfl,by omega⟩,Int.toNat_natCast]
 refine zl L.length (λi (x:Int×List Lb)=>x.1=(i:Int)/\x.2.length=n/\∀a,a<n->((x.2.getD a (false,0)).1=true->∃r,FW (L.map bU) a r v/\r.length=k+1/\wt r=(x.2.getD a (false,0)).2)/\(∀c∈L.take i,c.1=(a:Int)->∀r,FW (L.map bU) c.2.1.toNat r v->r.length=k->(x.2.getD a (false,0)).1=true/\(x.2.getD a (false,0)).2<=c.2.2+wt r)/\QV d (B*(k+1)) (x.2.getD a (false,0)).2)
  (λo=>∃w',o=some w'/\fL L n d B v (k+1) w') Oz ⟨rfl,by simp,λa ha=>?_⟩ ?_ ?_
 .rw[U]
  exact⟨λh=>(nomatch h),λc hc=>by simp at hc,Hy⟩
 .rintro i ⟨_,x⟩ g s ⟨rfl,D,hx⟩ hg
  dsimp only at D hx |-
  obtain⟨⟨f0,f1,t0,t1⟩,hm⟩:=hi _ (aL s)
  obtain⟨f,hf⟩:=Int.eq_ofNat_of_zero_le f0
  obtain⟨t,K⟩:=Int.eq_ofNat_of_zero_le t0
  have A:f<n:=by omega
  have M:t<n:=by omega
  have u:=hw.at' t M
  have lw:=hw.len
  have hc:bU L[i]∈L.map bU:=eY (aL s)
  have H:(bU L[i]).fr=f:=by show L[i].1.toNat=f;rw[hf];rfl
  have I:(bU L[i]).to=t:=by show L[i].2.1.toNat=t;rw[K];rfl
  -- the invariant,when the cell at f becomes p
  have step:∀p:Lb,(p.1=true->∃r,FW (L.map bU) f r v/\r.length=k+1/\wt r=p.2)->((x.getD f (false,0)).1=true->p.1=true/\p.2<=(x.getD f (false,0)).2)->(∀r,FW (L.map bU) t r v->r.length=k->p.1=true/\p.2<=L[i].2.2+wt r)->QV d (B*(k+1)) p.2 ->
   ∀y:List Lb,y.length=n->(∀j,j<n->y.getD j (false,0)=if j=f then p else x.getD j (false,0))->∀a,a<n->((y.getD a (false,0)).1=true->∃r,FW (L.map bU) a r v/\r.length=k+1/\wt r=(y.getD a (false,0)).2)/\(∀c∈L.take (i+1),c.1=(a:Int)->∀r,FW (L.map bU) c.2.1.toNat r v->r.length=k->(y.getD a (false,0)).1=true/\(y.getD a (false,0)).2<=c.2.2+wt r)/\QV d (B*(k+1)) (y.getD a (false,0)).2:=by
   intro p p1 p2 Y Z y ly X a ha
   rw[X a ha]
   obtain⟨G,m,R⟩:=hx a ha
   by_cases T:a=f
   .subst T
    rw[aG rfl]
    refine⟨p1,λc hc z r l b=>?_,Z⟩
    rw[yY s,aW,bC]at hc
    rcases hc with hc|rfl
    .obtain⟨u1,u2⟩:=m c hc z r l b
     obtain⟨v1,v2⟩:=p2 u1
     exact⟨v1,dP v2 u2⟩
    .rw[K,Int.toNat_natCast]at l
     exact Y r l b
   .rw[aD T]
    refine⟨G,λc hc z r l b=>?_,R⟩
    rw[yY s,aW,bC]at hc
    rcases hc with hc|rfl
    .exact m c hc z r l b
    .rw[hf]at z;omega
  have C:(∀r,FW (L.map bU) t r v->r.length=k->(x.getD f (false,0)).1=true/\(x.getD f (false,0)).2<=L[i].2.2+wt r)->∃w',((i64 ((i:Int)+1)).bind λQ=>g (Q,x))=some w'/\fL L n d B v (k+1) w':=λh=>by
   rw[zo Oz,aA]
   exact hg _ ⟨rfl,D,step _ (hx f A).1 (λh=>⟨h,dH⟩) h (hx f A).2.2 x D λj hj=>by split<;>simp[*]⟩
  rw[aG (zV s),zu s,aA]
  simp only[hf,K]
  rw[xm (e:=(false,0)) (by omega:t<w.length),aA]
  generalize w.getD t (false,0)=q at u |-
  obtain⟨G,m⟩:=q
  cases G with
  |false=>
   rw[aG (by rfl)]
   exact C λr l b=>absurd (u.least r l b).1 Y8
  |true=>
   have F:QV d (B*k) m:=u.num
   obtain⟨r0,J,O,E⟩:=u.way rfl
   have E:wt r0=m:=E
   have sum:QV d (B*(k+1)) (L[i].2.2+m):=by
    have:=hm.add F
    rw[show B+B*k=B*(k+1)by rw[Nat.mul_add,cG,Nat.add_comm]]at this
    exact this
   have new:∃r,FW (L.map bU) f r v/\r.length=k+1/\wt r=L[i].2.2+m:=⟨bU L[i]::r0,⟨H,hc,by rw[I];exact J⟩,by simp[O],by rw[wt,E];rfl⟩
   have least:∀r,FW (L.map bU) t r v->r.length=k->L[i].2.2+m<=L[i].2.2+wt r:=λr l b=>Rat.add_le_add_left.mpr (u.least r l b).2
   have put:((x.getD f (false,0)).1=true->L[i].2.2+m<=(x.getD f (false,0)).2)->∃w',((i64 ((i:Int)+1)).bind λP=>g (P,zM x (Int.toNat (f:Int)) (true,L[i].2.2+m)))=some w'/\fL L n d B v (k+1) w':=λh=>by
    rw[zo Oz,aA,Int.toNat_natCast]
    exact hg _ ⟨rfl,by rw[y9];exact D,step (true,L[i].2.2+m) (λ_=>new) (λV=>⟨rfl,h V⟩) (λr l b=>⟨rfl,least r l b⟩) sum _ (by rw[y9];exact D) λj hj=>Xx Oz⟩
   have s1:=S k Oz
   have s2:=S (k+1) Oz
   have s3:SB d B:=by have:=S 1 Oz;rw[cG]at this;exact this
   have ex:ae x (f:Int)=some (x.getD f (false,0)):=xm Oz
   rw[aD Y8,yE (hm.sm s3) (F.sm s1),aA]
   simp only[ex,aA]
   have N:=(hx f A).2.2
   have hx1:=(hx f A).2.1
   cases hp:(x.getD f (false,0)).1 with
   |false=>
    rw[aG (by rfl)]
    exact put λh=>by rw[hp]at h;cases h
   |true=>
    rw[aD Y8,yW (sum.sm s2) (N.sm s2),aA,zhC]
    by_cases c:L[i].2.2+m<(x.getD f (false,0)).2
    .rw[aG (aH c)]
     exact put λ_=>Rat.le_of_lt c
    .rw[aD (by rw[aC];exact c)]
     exact C λr l b=>⟨hp,dP (Rat.not_lt.mp c) (least r l b)⟩
 .rintro⟨_,x⟩ g ⟨rfl,D,hx⟩
  dsimp only at D hx |-
  rw[aD Y8]
  refine⟨x,rfl,D,λa ha=>?_⟩
  obtain⟨G,m,R⟩:=hx a ha
  rw[bE]at m
  refine⟨G,λr l b=>?_,R⟩
  cases r with
  |nil=>cases b
  |cons c r=>
   obtain⟨h1,h2,W⟩:=l
   obtain⟨e,he,rfl⟩:=List.mem_map.mp h2
   have h0:=(hi e he).1
   exact m e he (by have:e.1.toNat=a:=h1;omega) r W (by simpa using b)
end
def IW(L:List Bd):Nat->List Int->Nat->Rat->Prop
 |a,[],v,s=>a=v/\s=0
 |a,x::r,v,s=>∃i,x=((i:Nat):Int)/\∃h:i<L.length,L[i].1.toNat=a/\∃s',s=L[i].2.2+s'/\IW L L[i].2.1.toNat r v s'
section
variable{n d B:Nat}{L:List Bd}(hn:0<n/\n<=4)(hL:L.length<=60)(hi:∀c∈L,(0<=c.1/\c.1<(n:Int)/\0<=c.2.1/\c.2.1<(n:Int))/\QV d B c.2.2)(hs:SB d (B*8))
include hn hL hi hs
theorem Cp{v k a:Nat}(hk:k<n){tb:List (List Lb)}(F:k<tb.length)(hw:fL L n d B v k (tb.getD k []))(ha:a<n){sum:Rat}{j:Nat}(hj:j<=4)(p:QV d (B*j) sum) :
 (mW L tb (k:Int) (a:Int) sum=some (-1)/\∀r,FW (L.map bU) a r v->r.length=k+1->¬sum+wt r<0) \/
 ∃i,∃h:i<L.length,mW L tb (k:Int) (a:Int) sum=some (i:Int)/\L[i].1=(a:Int)/\∃r,FW (L.map bU) L[i].2.1.toNat r v/\r.length=k/\sum+(L[i].2.2+wt r)<0:=by
 have C:∀j,j<=8->SB d (B*j):=λj hj=>WQ hs (cI _ hj)
 have K:ae tb (k:Int)=some (tb.getD k []):=xm F
 generalize tb.getD k []=w at *
 have lw:=hw.len
 unfold mW
 refine zl L.length (λi (x:Int)=>x=(i:Int)/\∀c∈L.take i,c.1=(a:Int)->∀r,FW (L.map bU) c.2.1.toNat r v->r.length=k->¬sum+(c.2.2+wt r)<0) (λo=>(o=some (-1)/\∀r,FW (L.map bU) a r v->r.length=k+1->¬sum+wt r<0) \/
  ∃i,∃h:i<L.length,o=some (i:Int)/\L[i].1=(a:Int)/\∃r,FW (L.map bU) L[i].2.1.toNat r v/\r.length=k/\sum+(L[i].2.2+wt r)<0) Oz ⟨rfl,λc hc=>by simp at hc⟩ ?_ ?_
 .rintro i x g f ⟨rfl,hx⟩ hg
  obtain⟨⟨f0,f1,t0,t1⟩,hm⟩:=hi _ (aL f)
  obtain⟨t,H⟩:=Int.eq_ofNat_of_zero_le t0
  have I:t<n:=by omega
  have l:=hw.at' t I
  have next:(L[i].1=(a:Int)->∀r,FW (L.map bU) t r v->r.length=k->¬sum+(L[i].2.2+wt r)<0)->∀o,o=((i64 ((i:Int)+1)).bind λN=>g N)->(o=some (-1)/\∀r,FW (L.map bU) a r v->r.length=k+1->¬sum+wt r<0) \/
   ∃i,∃h:i<L.length,o=some (i:Int)/\L[i].1=(a:Int)/\∃r,FW (L.map bU) L[i].2.1.toNat r v/\r.length=k/\sum+(L[i].2.2+wt r)<0:=by
   rintro h o rfl
   rw[zo Oz,aA]
   refine hg _ ⟨rfl,λc hc z r m b=>?_⟩
   rw[yY f,aW,bC]at hc
   rcases hc with hc|rfl
   .exact hx c hc z r m b
   .rw[H,Int.toNat_natCast]at m
    exact h z r m b
  rw[aG (zV f),zu f,aA,K,aA]
  simp only[H]
  rw[xm (e:=(false,0)) (by omega:t<w.length),aA]
  generalize w.getD t (false,0)=q at l |-
  obtain⟨O,y⟩:=q
  by_cases E:L[i].1=(a:Int)
  .rw[aG (aH E)]
   cases O with
   |false=>
    rw[aD Y8]
    exact next (λ_ r m b=>absurd (l.least r m b).1 Y8) _ rfl
   |true=>
    have A:QV d (B*k) y:=l.num
    obtain⟨r0,G,J,u⟩:=l.way rfl
    have u:wt r0=y:=u
    have s1:=C k Oz
    have s2:=C (k+1) Oz
    have P:SB d B:=by have:=C 1 Oz;rw[cG]at this;exact this
    have Q:=C j Oz
    have R:=C (j+(k+1)) Oz
    have s:QV d (B*(k+1)) (L[i].2.2+y):=by
     have:=hm.add A
     rw[show B+B*k=B*(k+1)by rw[Nat.mul_add,cG,Nat.add_comm]]at this
     exact this
    have D:QV d (B*(j+(k+1))) (sum+(L[i].2.2+y)):=by
     have:=p.add s
     rw[<-Nat.mul_add]at this
     exact this
    rw[aG rfl,yE (hm.sm P) (A.sm s1),aA,yE (p.sm Q) (s.sm s2),aA,Kz (D.sm R),aA]
    by_cases c:sum+(L[i].2.2+y)<0
    .rw[aG (aH (ei.mpr c))]
     exact .inr ⟨i,f,rfl,E,r0,by rw[H,Int.toNat_natCast];exact G,J,by rw[u];exact c⟩
    .rw[aD (by rw[aC];exact λh=>c (ei.mp h))]
     refine next (λ_ r m b h=>c ?_) _ rfl
     have:=(l.least r m b).2
     have this:y<=wt r:=this
     grind
  .rw[aD (by rw[aC];exact E)]
   exact next (λh=>absurd h E) _ rfl
 .rintro x g ⟨rfl,hx⟩
  rw[aD Y8,bE]at *
  refine .inl ⟨rfl,λr m b=>?_⟩
  cases r with
  |nil=>cases b
  |cons c r=>
   obtain⟨h1,h2,M⟩:=m
   obtain⟨e,he,rfl⟩:=List.mem_map.mp h2
   have h0:=(hi e he).1
   exact hx e he (by have:e.1.toNat=a:=h1;omega) r M (by simpa using b)
theorem o7{v:Nat}{tb:List (List Lb)}:∀(k:Nat) (_:k<=n) (_:k<=tb.length) (_:∀j,j<k->fL L n d B v j (tb.getD j [])) (a:Nat) (_:a<n) (sum:Rat) (j:Nat) (_:j+k<=4) (_:QV d (B*j) sum) (out:List Int) (_:out.length<=j),
 ∃w,Cr L tb k (a:Int) sum out=some w/\(w=[]\/∃new s,w=out++new/\new.length=k/\IW L a new v s/\(k=0\/sum+s<0)\/k=0/\w=out)/\((∃r,FW (L.map bU) a r v/\r.length=k/\sum+wt r<0)->w=[]->k=0)
 |0,_,_,_,a,_,sum,j,_,_,out,_=>⟨out,rfl,.inr ⟨[],0,.inr ⟨rfl,rfl⟩⟩,λ_ _=>rfl⟩
 |k+1,hk,hkt,C,a,ha,sum,j,hj,f,out,ho=>by
  have D:∀j,j<=8->SB d (B*j):=λj hj=>WQ hs (cI _ hj)
  rw[Cr]
  rcases Cp hn hL hi hs Oz Oz (C k Oz) ha (show j<=4 by omega) f with⟨e,h⟩|⟨i,g,e,ea,r0,m,o,b⟩
  .rw[e,aA,aG Uz]
   exact⟨[],rfl,.inl rfl,λ⟨r,h1,h2,q⟩=>absurd q (h r h1 h2)⟩
  .obtain⟨⟨f0,f1,t0,t1⟩,hm⟩:=hi _ (aL g)
   obtain⟨t,l⟩:=Int.eq_ofNat_of_zero_le t0
   have E:SB d B:=by have:=D 1 Oz;rw[cG]at this;exact this
   have x:QV d (B*(j+1)) (sum+L[i].2.2):=by
    have:=f.add hm
    rw[show B*j+B=B*(j+1)by rw[Nat.mul_add,cG]]at this
    exact this
   rw[e,aA,aD Oz,zu g,aA,yP (by simp;omega),aA,yE (f.sm (D j Oz)) (hm.sm E),aA,l]
   obtain⟨w,p,h1,h2⟩:=o7 k Oz Oz (λj hj=>C j Oz) t Oz (sum+L[i].2.2) (j+1) Oz x (out++[(i:Int)]) (by simp;omega)
   rw[l,Int.toNat_natCast]at m
   have u:w=[]->k=0:=h2 ⟨r0,m,o,by rw[Rat.add_assoc];exact b⟩
   refine⟨w,p,.inr ?_,λ_ hw=>?_⟩
   .rcases h1 with rfl|⟨new,s,(⟨q,y,A,z⟩|⟨q,y⟩)⟩
    .obtain rfl:=u rfl
     rw[Cr]at p
     exact absurd (dD p) Y8
    .refine⟨(i:Int)::new,L[i].2.2+s,.inl ⟨by rw[q,bF];rfl,by simp[y],⟨i,rfl,g,by rw[ea,Int.toNat_natCast],s,rfl,by rw[l,Int.toNat_natCast];exact A⟩,.inr ?_⟩⟩
     rcases z with rfl|z
     .obtain rfl:new=[]:=bV.mp y
      obtain⟨-,rfl⟩:=A
      obtain rfl:r0=[]:=bV.mp o
      exact b
     .rw[<-Rat.add_assoc];exact z
    .subst q
     obtain rfl:r0=[]:=bV.mp o
     refine⟨[(i:Int)],L[i].2.2+0,.inl ⟨y,rfl,⟨i,rfl,g,by rw[ea,Int.toNat_natCast],0,rfl,?_,rfl⟩,.inr b⟩⟩
     rw[l,Int.toNat_natCast]
     exact m
   .exfalso
    obtain rfl:=u hw
    rw[Cr]at p
    have:=dD p
    rw[hw]at this
    simp at this
end
def tS(L:List Bd)(n:Nat)(w:List Int):Prop:=(0<w.length/\w.length<=n)/\∃v s,IW L v w v s/\s<0
theorem sZ(c out:List Int)(hc:c.length<64):∃r,sY c out=some r:=by
 unfold sY
 refine zl c.length (λi (x:Int)=>x=(i:Int)) (λo=>∃r,o=some r) hc rfl ?_ ?_
 .rintro i x g hi rfl hg
  rw[aG (zV hi),zu hi,aA]
  by_cases h:(out.length:Int)<=(i:Int)
  .rw[aG (aH h)]
   exact⟨1,rfl⟩
  .rw[aD (by rw[aC];exact h),zu (show i<out.length by omega),aA]
   have:∃r,IY c[i] out[i]=some r:=by
    unfold IY JR
    simp only[aA]
    repeat' (first|exact⟨_,rfl⟩|(split;skip))
   obtain⟨r,e⟩:=this
   rw[e,aA]
   by_cases h0:r=0
   .rw[aD (by rw[aC];omega),zo Oz,aA]
    exact hg _ rfl
   .rw[aG (by rw[aC];exact h0)]
    exact⟨r,rfl⟩
 .rintro x g rfl
  rw[aD Y8]
  split
  .exact⟨_,rfl⟩
  .exact⟨_,rfl⟩
section
variable{n d B:Nat}{L:List Bd}(hn:0<n/\n<=4)(hL:L.length<=60)(hi:∀c∈L,(0<=c.1/\c.1<(n:Int)/\0<=c.2.1/\c.2.1<(n:Int))/\QV d B c.2.2)(hs:SB d (B*8))
structure u4(L:List Bd)(n d B v q:Nat)(t:List (List Lb)):Prop where
 len:t.length=q+1
 at':∀k,k<=q->fL L n d B v k (t.getD k [])
structure iH(L:List Bd)(n d B q:Nat)(ts:List (List (List Lb))):Prop where
 len:ts.length=n
 at':∀v,v<n->u4 L n d B v q (ts.getD v [])
include hn in
theorem oa:∀(k v:Nat) (_:v+k=n) (ts:List (List (List Lb))) (_:ts.length=n) (_:∀j,j<v->u4 L n d B j 0 (ts.getD j [])),∃a,GF ((n:Int),L) k (v:Int) ts=some a/\iH L n d B 0 a
 |0,v,hv,ts,hl,h=>⟨ts,rfl,hl,λj hj=>h j Oz⟩
 |k+1,v,hv,ts,hl,h=>by
  obtain⟨l0,e,b⟩:=Aw (L:=L) (d:=d) (B:=B) hn (show v<n by omega)
  rw[GF,e,aA,Int.toNat_natCast]
  refine oa k (v+1) Oz _ (by rw[bR];exact hl) λj hj=>?_
  rw[wB Oz]
  by_cases c:j=v
  .subst c
   rw[aG rfl]
   exact⟨rfl,λi hi=>by
    obtain rfl:i=0:=by omega
    exact b⟩
  .rw[aD c]
   exact h j Oz
include hn hL hi hs in
theorem oc{q:Nat}(m:q<n):∀(k v:Nat) (_:v+k=n) (ts:List (List (List Lb))) (_:ts.length=n) (_:∀j,j<n->u4 L n d B j (if j<v then q+1 else q) (ts.getD j [])),∃a,GG ((n:Int),L) ((q:Int)+1) k (v:Int) ts=some a/\iH L n d B (q+1) a
 |0,v,hv,ts,hl,h=>⟨ts,rfl,hl,λj hj=>by have:=h j hj;rw[aG Oz]at this;exact this⟩
 |k+1,v,hv,ts,hl,h=>by
  have g:v<n:=by omega
  have f:=h v g
  rw[aD Oz]at f
  obtain⟨w',e,l⟩:=lM hn hL hi hs (v:=v) m (f.at' q (aN _))
  have o:=f.len
  rw[GG,xm (e:=[]) (show v<ts.length by omega),aA,show((q:Int)+1-1)=(q:Int)by omega,xm (e:=[]) (show q<(ts.getD v []).length by omega),aA,e,aA,yP (by show _+1<=_;omega),aA,Int.toNat_natCast]
  refine oc m k (v+1) Oz _ (by rw[bR];exact hl) λj hj=>?_
  rw[wB Oz]
  by_cases c:j=v
  .subst c
   rw[aG rfl,aG Oz]
   refine⟨by rw[aQ,o];rfl,λi hi=>?_⟩
   by_cases b:i=q+1
   .subst b
    rw[aB,List.getElem?_append_right Oz,o,Nat.sub_self]
    exact l
   .rw[aB,cA Oz,<-aB]
    exact f.at' i Oz
  .rw[aD c]
   have:=h j hj
   by_cases b:j<v
   .rw[aG b]at this;rw[aG Oz];exact this
   .rw[aD b]at this;rw[aD Oz];exact this
def L4(L:List Bd)(n q:Nat):Prop:=∃v r,v<n/\FW (L.map bU) v r v/\r.length=q/\wt r<0
include hn hs in
theorem od{q:Nat}(t:q<=n){ts:List (List (List Lb))}(i:iH L n d B q ts):∀(k v:Nat) (_:v+k=n) (_:∀j r,j<v->FW (L.map bU) j r j->r.length=q->¬wt r<0),∃b:Bool,Am (q:Int) k (v:Int) ts=some b/\(b=true↔L4 L n q)
 |0,v,hv,h=>⟨false,rfl,λh=>(nomatch h),λ⟨j,r,h1,h2,f,s⟩=>absurd s (h j r Oz h2 f)⟩
 |k+1,v,hv,h=>by
  have a:v<n:=by omega
  have m:=i.at' v a
  have tl:=m.len
  have l:=m.at' q (aN _)
  have p:=l.at' v a
  have ll:=l.len
  have hl:=i.len
  rw[Am,xm (e:=[]) (show v<ts.length by omega),aA,xm (e:=[]) (show q<(ts.getD v []).length by omega),aA,xm (e:=(false,0)) (by omega:v<((ts.getD v []).getD q []).length),aA]
  generalize ((ts.getD v []).getD q []).getD v (false,0)=e at p |-
  obtain⟨e1,e2⟩:=e
  have next:(∀r,FW (L.map bU) v r v->r.length=q->¬wt r<0)->∃b:Bool,Am (q:Int) k (v+1:Int) ts=some b/\(b=true↔L4 L n q):=λo=>od t i k (v+1) Oz λj r hj h1 h2=>by
   by_cases c:j=v
   .subst c;exact o r h1 h2
   .exact h j r Oz h1 h2
  cases e1 with
  |false=>exact next λr h1 h2=>absurd (p.least r h1 h2).1 Y8
  |true=>
   have g:QV d (B*q) e2:=p.num
   obtain⟨r0,h1,h2,f⟩:=p.way rfl
   have f:wt r0=e2:=f
   rw[aG rfl,Kz (g.sm (WQ hs (cI _ Oz))),aA]
   by_cases c:e2<0
   .rw[aG (ei.mpr c)]
    exact⟨true,rfl,λ_=>⟨v,r0,a,h1,h2,by rw[f];exact c⟩,λ_=>rfl⟩
   .rw[aD λh=>c (ei.mp h)]
    refine next λr g1 g2 g3=>c ?_
    have:=(p.least r g1 g2).2
    have this:e2<=wt r:=this
    grind
include hn hL hi hs in
theorem og:∀(k q:Nat) (_:q+k=n) (ts:List (List (List Lb))) (_:iH L n d B q ts) (_:∃j,q<j/\j<=n/\L4 L n j),∃m a,GH ((n:Int),L) k q ts=some (m,a)/\(0<m/\m<=n)/\iH L n d B m a/\L4 L n m
 |0,q,i,ts,g,⟨j,h1,h2,_⟩=>by omega
 |k+1,q,i,ts,g,⟨j,h1,h2,h⟩=>by
  obtain⟨a,e,f⟩:=oc hn hL hi hs (q:=q) Oz n 0 Oz ts g.len (λj hj=>by rw[aD Oz];exact g.at' j hj)
  obtain⟨b,eb,hb⟩:=od hn hs (q:=q+1) Oz f n 0 Oz (λj r hj=>by omega)
  rw[GH]
  dsimp only
  rw[Int.toNat_natCast,show(0:Int)=((0:Nat):Int)from rfl,e,aA,show((q:Int)+1)=((q+1:Nat):Int)by omega,eb,aA]
  cases b with
  |true=>
   rw[aG rfl]
   exact⟨q+1,a,rfl,⟨by omega,by omega⟩,f,hb.mp rfl⟩
  |false=>
   rw[aD Y8]
   refine og k (q+1) Oz a f ⟨j,?_,h2,h⟩
   by_cases c:j=q+1
   .subst c;exact absurd (hb.mpr h) Y8
   .omega
include hn hL hi hs in
theorem oW{m v:Nat}(hm:0<m/\m<=n)(hv:v<n){t:List (List Lb)}(g:u4 L n d B v m t):∃w,te ((n:Int),L) t (v:Int) (m:Int)=some w/\(w=[]\/tS L n w)/\((∃r,FW (L.map bU) v r v/\r.length=m/\wt r<0)->w≠[])/\w.length<=n:=by
 have tl:=g.len
 unfold te
 rw[aG ⟨by omega,by omega⟩,Int.toNat_natCast]
 obtain⟨w,e,h1,h2⟩:=o7 hn hL hi hs (v:=v) (tb:=t) m Oz Oz (λj hj=>g.at' j Oz) v hv 0 0 Oz Hy [] Y8
 refine⟨w,e,?_,λ⟨r,g1,g2,h⟩ hw=>?_,?_⟩
 .rcases h1 with rfl|⟨new,s,(⟨a,i,f,b⟩|⟨a,_⟩)⟩
  .exact .inl rfl
  .rw[cJ]at a
   subst a
   refine .inr ⟨⟨by omega,by omega⟩,v,s,f,?_⟩
   rcases b with b|b
   .omega
   .rw[Rat.zero_add]at b;exact b
  .omega
 .have:=h2 ⟨r,g1,g2,by rw[Rat.zero_add];exact h⟩ hw
  omega
 .rcases h1 with rfl|⟨new,s,(⟨a,i,f,b⟩|⟨a,_⟩)⟩
  .simp
  .rw[cJ]at a;subst a;omega
  .omega
include hn hL hi hs in
theorem om{m:Nat}(hm:0<m/\m<=n){ts:List (List (List Lb))}(f:iH L n d B m ts):∀(k v:Nat) (_:v+k=n) (out:List Int) (_:out=[]\/tS L n out) (_:out≠[]\/∃j r,v<=j/\j<n/\FW (L.map bU) j r j/\r.length=m/\wt r<0),∃w,oh ((n:Int),L) (m:Int) ts k (v:Int) out=some w/\tS L n w
 |0,v,hv,out,ho,b=>⟨out,rfl,by
  rcases b with h|⟨j,r,h1,h2,_⟩
  .exact ho.resolve_left h
  .omega⟩
 |k+1,v,hv,out,ho,b=>by
  have hl:=f.len
  obtain⟨c,e,h1,h2,h3⟩:=oW hn hL hi hs hm (show v<n by omega) (f.at' v Oz)
  rw[oh,xm (e:=[]) (show v<ts.length by omega),aA,e,aA]
  have a:∀o:List Int,(o=[]\/tS L n o)->(o=[]->out=[]/\c=[])->∃w,oh ((n:Int),L) (m:Int) ts k (v+1:Int) o=some w/\tS L n w:=λo g1 g2=>by
   refine om hm f k (v+1) Oz o g1 ?_
   by_cases c0:o=[]
   .right
    obtain⟨t,u⟩:=g2 c0
    obtain⟨j,r,h4,s,l⟩:=b.resolve_left λh=>h t
    refine⟨j,r,?_,s,l⟩
    by_cases p:j=v
    .subst p;exact absurd u (h2 ⟨r,l⟩)
    .omega
   .exact .inl c0
  by_cases c0:c.length=0
  .rw[aG c0]
   have c0:=bV.mp c0
   exact a out ho λh=>⟨h,c0⟩
  rw[aD c0]
  have cn:c≠[]:=λh=>c0 (by rw[h];rfl)
  have i:=h1.resolve_left cn
  by_cases g:out.length=0
  .rw[aG g]
   exact a c (.inr i) λh=>absurd h cn
  rw[aD g]
  have on:out≠[]:=λh=>g (by rw[h];rfl)
  obtain⟨r,q⟩:=sZ c out Oz
  rw[q,aA]
  split
  .exact a c (.inr i) λh=>absurd h cn
  .exact a out ho λh=>absurd h on
include hn hL hi hs in
theorem ov(b:¬ ∃y,eu (L.map bU) y):∃w,I3 ((n:Int),L)=some w/\tS L n w:=by
 obtain⟨ts,e,p⟩:=oa (L:=L) (d:=d) (B:=B) hn n 0 Oz (List.replicate n []) Y8 (λj hj=>by omega)
 have a:∃j,0<j/\j<=n/\L4 L n j:=by
  apply eB
  intro h
  refine b (HH (n:=n) (Kr hi) λv r hv o hl h0=>Rat.not_lt.mp λhw=>h ⟨r.length,?_,hl,v,r,hv,o,rfl,hw⟩)
  have:=List.length_pos_iff.mpr h0
  omega
 obtain⟨m,ts',g,hm,f,j,r,g1,g2,k,l⟩:=og hn hL hi hs n 0 Oz ts p a
 obtain⟨w,i,hw⟩:=om hn hL hi hs hm f n 0 Oz [] (.inl rfl) (.inr ⟨j,r,by omega,g1,g2,k,l⟩)
 refine⟨w,?_,hw⟩
 unfold I3
 dsimp only
 rw[aG ⟨by omega,by omega⟩,Int.toNat_natCast,show(0:Int)=((0:Nat):Int)from rfl,e,aA,g,aA]
 exact i
end
structure cr(P:List Pc)(F:List Fq)(K:Nat):Prop where
 n:0<P.length/\P.length<=4
 pc:∀p∈P,bm p
 fl:F.length<=6
 ft:∀f∈F,fY f
 kl:KL F K
 kd:K<=289
def eD(P:List Pc)(F:List Fq):Bool:=jn P.length F&&F.all Qx
theorem FC{d:Nat}{t:Rat×Rat}(h:Tx d t):V2 d 1 t:=by
 obtain⟨h0,x,y,hs,e1,e2⟩:=h
 have a:(0:Int)<d:=by omega
 have hx:=XU a hs
 have b:=XU (x:=y) (y:=x) a (by rw[<-hs];omega)
 rw[Int.natAbs_natCast]at hx b
 have key:∀{z:Int},z.natAbs<=d->QV d 1 (mkRat z d):=λ{z} hz=>by
  refine⟨z,?_,by omega⟩
  rw[Rat.mkRat_eq_div]
  exact Rat.div_mul_cancel (by exact_mod_cast (by omega:d≠0))
 exact⟨by rw[e1];exact key hx,by rw[e2];exact key b⟩
theorem V2.dvd{d e B:Nat}{v:Rat×Rat}(h:V2 d B v)(g:d∣e):V2 e B v:=by
 obtain⟨k,rfl⟩:=g
 exact h.up
section
variable{P:List Pc}{F:List Fq}{K:Nat}(h:cr P F K)
include h
theorem cr.k:Kd K:=⟨h.kl.pos,h.kd⟩
theorem cr.tu:∀f∈F,u3 f:=λf hf=>GO (h.ft f hf)
theorem cr.right:tN (P.length:Int) F=some (jn P.length F):=zch h.fl h.tu
section
variable(ok:eD P F=true)
include ok
omit h in
theorem Hl:jn P.length F=true:=by unfold eD at ok;rw[aF]at ok;exact ok.1
omit h in
theorem KW:∀f∈F,0<=f.1/\f.1<f.2.1/\f.2.1<(P.length:Int):=λf hf=>cO (List.all_eq_true.mp (Hl ok) f hf)
omit h in
theorem Oq:∀f∈F,tU P.length f:=λf hf=>by
 have hs:F.all Qx=true:=by unfold eD at ok;rw[aF]at ok;exact ok.2
 obtain⟨a,b,c⟩:=KW ok f hf
 obtain⟨d,e,k⟩:=cO (List.all_eq_true.mp hs f hf)
 exact⟨a,b,c,d,e,k⟩
theorem OP:Gn P.length F:=⟨h.n.2,h.fl,by rw[h.right,Hl ok],KW ok,λf hf=>(h.ft f hf).tn.le Uz⟩
theorem Il:FH (P.length:Int) F=some (ZE P.length F):=by
 unfold FH
 rw[Int.toNat_natCast,aG ⟨by omega,OP h ok⟩]
theorem sV:tL (P.length:Int) F=some (xG P.length F):=WZ (KW ok) h.n.2 h.fl (by rw[h.right,Hl ok])
omit h in
theorem KD:dy (az F) P.length (yJ (az F) F.length) (xG P.length F):=u9 λk hk=>by
 rw[show az F k=(F[k].1,F[k].2.1)from(zaX hk).2];exact KW ok _ (aL hk)
end
theorem zgz(i:Nat):V2 K 1 (qY P.length F i):=by
 obtain⟨D,b,c⟩:=h.kl.fn
 unfold qY
 cases hw:way (az F) (yJ (az F) F.length) ((xG P.length F).getD i 0) i with
 |none=>exact(FC zbM).dvd (Nat.one_dvd _)
 |some r=>
  obtain⟨h1,h2⟩:=WG (ql _) hw
  have a:∀k∈r,k<F.length:=λk hk=>kY _ k (h2 k hk)
  have:=zdP (e:=az F) (T:=dw F) (D:=D) (r:=r) (v:=(xG P.length F).getD i 0) (λk hk=>c k (a k hk)) zbM
  rw[eG]at this
  refine(FC this).dvd ?_
  rw[<-b]
  exact rf h1 λk hk=>dX.mpr (a k hk)
end
def xg(n:Nat)(F:List Fq):List Q2:=(List.range n).map (qY n F)
structure Gg(L:List Bd)(n d:Nat)(x:List Rat):Prop where
 len:x.length=n
 sat:eu (L.map bU) (fx x)
 neg:∀v,v<n->fx x v<=0
 top:∀y,eu (L.map bU) y->(∀v,v<n->y v<=0)->∀v,v<n->y v<=fx x v
 num:∀v,v<n->QV d 180 (fx x v)
section
variable{n d B:Nat}{L:List Bd}
theorem FE(hm:∀c∈L,QV d B c.2.2):∀{v u:Nat} {r:List Ed},PR (L.map bU) v r u->QV d (B*r.length) (wt r)
 |_,_,[],_=>Hy
 |_,_,c::r,⟨_,h2,a⟩=>by
  obtain⟨e,he,rfl⟩:=List.mem_map.mp h2
  have:=(hm e he).add (FE hm a)
  rw[show B+B*r.length=B*(r.length+1)by rw[Nat.mul_add,cG,Nat.add_comm]]at this
  exact this
end
section
variable{n K:Nat}{L:List Bd}(hK:Kd K)(hn:0<n/\n<=4)(hg:SF K n 60 L)
include hK hn hg
theorem zhL:(∃x,Cm (n:Int) L=some (x,[],0)/\Gg L n (K*4) x)\/(¬(∃y,eu (L.map bU) y)/\∃w,Cm (n:Int) L=some ([],w,14)/\tS L n w):=by
 have hi:∀c∈L,(0<=c.1/\c.1<(n:Int)/\0<=c.2.1/\c.2.1<(n:Int))/\QV (K*4) 60 c.2.2:=λc hc=>by
  obtain⟨h1,h2,j⟩:=hg.2 c hc
  exact⟨⟨h1.1,h1.2,h2.1,h2.2⟩,j⟩
 have s1:=hK.s1 (c:=4) (B:=60*(5*60+1)) Uz
 have hm:=zhf hn hg.1 hg.2
 rcases zcX hg.1 hi hn.1 Oz (WQ s1 Oz)with⟨x,e,l,b,hu,hs,hq⟩|⟨e,a⟩
 .left
  refine⟨x,?_,l,hs,λv hv=>?_,λy k h0 v hv=>b.top (Kr hi) k h0 hv,λv hv=>?_⟩
  .unfold Cm
   rw[hm,aA,aD Y8,e,aA,aD Y8]
  .exact hu v [] v hv rfl (aN _)
  .obtain⟨r,u,hp,e⟩:=b.way v hv
   obtain⟨o,f,q2,m⟩:=short (Kr hi) hs r.length rfl hv hp
   have g:=hu u [] u (PR.lt (Kr hi) hv hp) rfl (aN _)
   have g:fx x u<=0:=g
   have le:=hs.path f
   have:fx x v=wt o:=by
    refine Rat.le_antisymm ?_ (by rw[e];exact m)
    grind
   rw[this]
   exact(FE (λc hc=>(hi c hc).2) f).le Oz
 .right
  obtain⟨w,i,hw⟩:=ov hn hg.1 hi (WQ s1 Oz) a
  refine⟨a,w,?_,hw⟩
  unfold Cm
  rw[hm,aA,aD Y8,e,aA,aG Y8,i,aA]
end
theorem Hg(x:Int):JR x=some false:=by unfold JR;simp
theorem zdy{l:List Int}{x:Int}:∀{p:Nat},p<=l.length->(x∈vT l p↔x∈l.take p)
 |0,_=>by rw[vT,List.take_zero]
 |p+1,h=>by
  have a:=zdy (l:=l) (x:=x) (p:=p) Oz
  have b:l.take (p+1)=l.take p++[l.getD p 0]:=j4 Oz
  rw[vT,b,aW,bC,<-a]
  by_cases h0:p=0
  .subst h0
   rw[aG rfl,bC,vT]
   simp
  rw[aD h0]
  by_cases c:l.getD p 0=l.getD (p-1) 0
  .rw[aG c]
   refine⟨.inl,λq=>q.elim id λe=>?_⟩
   rw[a,e,c,show l.getD (p-1) 0=l[p-1]from zp Oz]
   rw[List.mem_take_iff_getElem]
   exact⟨p-1,by omega,rfl⟩
  .rw[aD c,aW,bC]
theorem zhD{l:List Int}(hs:tH l l.length):∀{p:Nat},p<=l.length->(vT l p).Pairwise (·<·)/\∀x∈vT l p,x<=l.getD (p-1) 0
 |0,_=>by rw[vT];exact⟨.nil,λx hx=>(by cases hx)⟩
 |p+1,h=>by
  obtain⟨h1,h2⟩:=zhD hs (p:=p) Oz
  rw[vT,Nat.add_sub_cancel]
  by_cases h0:p=0
  .subst h0
   rw[aG rfl]
   exact⟨List.pairwise_singleton _ _,λx hx=>by rw[bC.mp hx];omega⟩
  rw[aD h0]
  by_cases c:l.getD p 0=l.getD (p-1) 0
  .rw[aG c]
   exact⟨h1,λx hx=>by rw[c];exact h2 x hx⟩
  .rw[aD c]
   have le:=hs (p-1) p Oz Oz
   refine⟨List.pairwise_append.mpr ⟨h1,List.pairwise_singleton _ _,λx hx y a=>?_⟩,λx hx=>?_⟩
   .rw[bC.mp a]
    have:=h2 x hx
    omega
   .rcases aW.mp hx with hx|hx
    .have:=h2 x hx;omega
    .rw[bC.mp hx];omega
theorem BK{l:List Int}(h0:0<l.length)(h12:l.length<=11)(e:Int):∃c,HP l e=some ([],c,e)/\(∀x,x∈c↔x∈l)/\c.Pairwise (·<·):=by
 have em:(l.length:Int) % 18446744073709551616=(l.length:Int):=by omega
 unfold HP
 rw[em,aG ⟨by omega,by omega⟩,show((l.length:Int)-0)=(l.length:Int)by omega,xd Oz,aA,aG (aH Oz)]
 refine zl (l.length-1) (λi (x:Int×List Int)=>x.1=((i+1:Nat):Int)/\x.2.Perm l/\tH x.2 (i+1)) (λo=>∃c:List Int,o=some ([],c,e)/\(∀x,x∈c↔x∈l)/\c.Pairwise (·<·)) Oz ⟨rfl,List.Perm.refl _,λp q h1 h2=>by omega⟩ ?_ ?_
 .rintro i ⟨x,M⟩ g hi ⟨rfl,b,f⟩ hg
  dsimp only at b f |-
  rw[aG (aH (show((i+1:Nat):Int)<(l.length:Int)by omega))]
  have out:∀M:List Int,M.Perm l->tH M (i+1+1)->∃c,((i64 (((i+1:Nat):Int)+1)).bind λk=>g (k,M))=some ([],c,e)/\(∀x,x∈c↔x∈l)/\c.Pairwise (·<·):=λM b f=>by
   rw[zo (show i+1<100000 by omega),aA]
   exact hg _ ⟨rfl,b,f⟩
  refine zl (i+1) (λt (x:Int×List Int)=>t<=i+1/\x.1=((i+1-t:Nat):Int)/\x.2.Perm l/\Cy x.2 (i+1) (i+1-t)) (λo=>∃c:List Int,o=some ([],c,e)/\(∀x,x∈c↔x∈l)/\c.Pairwise (·<·)) Oz ⟨by omega,rfl,b,f.but⟩ ?_ ?_
  .rintro t ⟨x,M'⟩ n ht ⟨r,rfl,a,d⟩ h
   dsimp only at a d |-
   have lm:=a.length_eq
   obtain⟨j,hj⟩:∃j,i+1-t=j+1:=⟨i-t,by omega⟩
   rw[hj]at d |-
   have p1:j+1<M'.length:=by omega
   have m:(((j+1:Nat):Int)-1)=(j:Int):=by omega
   rw[aG (aH Oz)]
   simp only[xm (e:=0) p1,aA,m,xd (show((j:Int)).natAbs<_ by omega),xm (e:=0) (show j<M'.length by omega),Hg,aV,cK]
   by_cases c:M'.getD (j+1) 0<M'.getD j 0
   .rw[aG (aH c)]
    have ls:(zM M' (Int.toNat ((j+1:Nat):Int)) (M'.getD j 0)).length=M'.length:=y9 ..
    rw[xm (e:=0) (show j<(zM M' (Int.toNat ((j+1:Nat):Int)) (M'.getD j 0)).length by omega),aA,aA]
    refine h _ ⟨by omega,by show _=_;omega,?_,?_⟩
    .rw[Int.toNat_natCast,Int.toNat_natCast,yQ,yQ]
     exact(Xk p1).trans a
    .rw[Int.toNat_natCast,Int.toNat_natCast,yQ,yQ,show i+1-(t+1)=j by omega]
     exact d.swap c p1
   .rw[aD (by rw[aC];exact c)]
    exact out _ a (d.srt (.inr c))
  .rintro⟨x,M'⟩ n ⟨r,rfl,a,d⟩
   dsimp only at a d |-
   rw[aD (by simp only[aC];omega)]
   exact out _ a (d.srt (.inl Oz))
 .rintro⟨x,M⟩ g ⟨rfl,b,f⟩
  dsimp only at b f |-
  have lm:=b.length_eq
  rw[aD (by simp only[aC];omega)]
  unfold RD
  rw[aG ⟨by omega,by omega⟩,aA]
  refine⟨_,rfl,λx=>?_,(zhD (by rw[show M.length=l.length-1+1 by omega];exact f) (aN _)).1⟩
  rw[zdy (aN _),bE]
  exact b.mem_iff
theorem Ax{w of:List Int}(h0:0<w.length)(h4:w.length<=4)(hw:∀x∈w,0<=x/\x<(of.length:Int))(e:Int):∃c,Kg w of e=some ([],c,e)/\(∀y,y∈c↔∃x∈w,y=of.getD x.toNat 0)/\c.Pairwise (·<·):=by
 unfold Kg
 refine zl w.length (λi (x:Int×List Int)=>x=((i:Int),(w.take i).map λx=>of.getD x.toNat 0)) (λo=>∃c:List Int,o=some ([],c,e)/\(∀y,y∈c↔∃x∈w,y=of.getD x.toNat 0)/\c.Pairwise (·<·)) Oz rfl ?_ ?_
 .rintro i x g hi rfl hg
  obtain⟨g0,g1⟩:=hw _ (aL hi)
  obtain⟨j,hj⟩:=Int.eq_ofNat_of_zero_le g0
  dsimp only
  rw[aG (zV hi),zu hi,aA,hj,xm (e:=0) (show j<of.length by omega),aA,yP (by simp;omega),aA,zo Oz,aA]
  refine hg _ ?_
  rw[yY hi,List.map_append,List.map_cons,hj]
  rfl
 .rintro x g rfl
  dsimp only
  rw[aD Y8,bE]
  obtain⟨c,a,hc,hp⟩:=BK (l:=w.map λx=>of.getD x.toNat 0) (by simp;omega) (by simp;omega) e
  refine⟨c,a,λy=>?_,hp⟩
  rw[hc,List.mem_map]
  constructor
  .rintro⟨x,hx,rfl⟩;exact⟨x,hx,rfl⟩
  .rintro⟨x,hx,rfl⟩;exact⟨x,hx,rfl⟩
def ef(n:Nat)(R:List Int)(T:List Q2)(x y:List Rat):List Pl:=(List.range n).map λi=>(T.getD i (0,0),fx x i-fx x (R.getD i 0).toNat,fx y i-fx y (R.getD i 0).toNat)
theorem By{n K:Nat}(l:Kd K){P:List Pc}{R:List Int}{T:List Q2}{x y:List Rat}(hn:n<=4)(m:P.length=n)(hp:∀p∈P,bm p)(j:R.length=n)(k:∀i (hi:i<n),0<=R[i]/\R[i]<n)(hT:T.length=n)(q:∀t∈T,V2 K 1 t)(hx:x.length=n)(hy:y.length=n)
 (f:∀v,v<n->QV (K*4) 180 (fx x v)) (h:∀v,v<n->QV (K*4) 180 (fx y v)):Bw P R T x y=some (if kE P R (ef n R T x y)=true then([],[],13)else(ef n R T x y,[],0)):=by
 have s:=l.s1 (c:=4) (B:=180) Uz
 unfold Bw
 refine zl n (λi (z:Int×List Pl)=>z=((i:Int),ef i R T x y)) (λo=>o=_) Oz rfl ?_ ?_
 .rintro i z g hi rfl hg
  have b:i<R.length:=by omega
  obtain⟨r0,r1⟩:=k i hi
  obtain⟨r,d⟩:=Int.eq_ofNat_of_zero_le r0
  have a:r<n:=by omega
  dsimp only
  rw[aG (by rw[j];exact zV hi),zu b,aA,d,xm (e:=(0,0)) (show i<T.length by omega),aA,Qb (show i<x.length by omega),aA,Qb (show r<x.length by omega),aA,Qb (show i<y.length by omega),aA,Qb (show r<y.length by omega),aA,
   vA ((f i hi).sm s) ((f r a).sm s),aA,vA ((h i hi).sm s) ((h r a).sm s),aA,yP (by simp[ef];omega),aA,zo Oz,aA]
  refine hg _ ?_
  have e:R.getD i 0=(r:Int):=by rw[zp b];exact d
  rw[ef,ef,Xr,e]
  rfl
 .rintro z g rfl
  dsimp only
  have u:(ef n R T x y).length=n:=by simp[ef]
  have w:∀v∈ef n R T x y,eV K v:=λv hv=>by
   obtain⟨i,hi,rfl⟩:=List.mem_map.mp hv
   have hi:=dX.mp hi
   have b:i<R.length:=by omega
   obtain⟨r0,r1⟩:=k i hi
   have e:R.getD i 0=R[i]:=zp b
   have a:(R.getD i 0).toNat<n:=by rw[e];omega
   refine⟨?_,(f i hi).sub (f _ a),(h i hi).sub (h _ a)⟩
   show V2 K 1 (T.getD i (0,0))
   rw[zp (show i<T.length by omega)]
   exact q _ (aL _)
  rw[aD (by rw[j];simp),zdv l hn m u j k hp w,aA]
  cases kE P R (ef n R T x y)<;>rfl
def nd(L:List Bd)(n:Nat)(of c:List Int):Prop:=∃w,tS L n w/\(∀y,y∈c↔∃x∈w,y=of.getD x.toNat 0)/\c.Pairwise (·<·)
inductive iC(P:List Pc)(F:List Fq)(K:Nat)(o:Option (List Pl×List Int×Int)):Prop
 |arg:eD P F=false->o=some ([],[],1)->iC P F K o
 |turn (k:Nat) (r:List Nat):eD P F=true->first (az F) (dw F) F.length=some (k,r)->o=some ([],(ey r).foldl Vm [(k:Int)],14)->iC P F K o
 |xs (c:List Int):eD P F=true->first (az F) (dw F) F.length=none->(¬ ∃y,nt P (xg P.length F) F y)->nd (Yb P (xg P.length F) F) P.length (jW F F.length) c->o=some ([],c,14)->iC P F K o
 |ys (c:List Int):eD P F=true->first (az F) (dw F) F.length=none->(¬ ∃y,nu P (xg P.length F) F y)->nd (Xb P (xg P.length F) F) P.length (jW F F.length) c->o=some ([],c,14)->iC P F K o
 |ok (x y:List Rat):eD P F=true->first (az F) (dw F) F.length=none->Gg (Yb P (xg P.length F) F) P.length (K*4) x->Gg (Xb P (xg P.length F) F) P.length (K*4) y->o=some (if kE P (xG P.length F) (ef P.length (xG P.length F) (xg P.length F) x y)=true then([],[],13)else(ef P.length (xG P.length F) (xg P.length F) x y,[],0))->iC P F K o
theorem zfb{L:List Bd}:∀{w:List Int} {a v:Nat} {s:Rat},IW L a w v s->∀x∈w,0<=x/\x<(L.length:Int)
 | [],_,_,_,_,x,hx=>nomatch hx
 |y::w,a,v,s,⟨i,e,hl,_,_,_,h⟩,x,hx=>by
  rcases aJ.mp hx with rfl|hx
  .omega
  .exact zfb h x hx
theorem Oe{P:List Pc}{T:List Q2}{F:List Fq}:(jW F F.length).length=(Yb P T F).length/\(jW F F.length).length=(Xb P T F).length:=by
 have key:∀i,i<=F.length->(jW F i).length=((F.take i).flatMap (EN P T)).length/\(jW F i).length=((F.take i).flatMap (EO P T)).length:=by
  intro i
  induction i with
  |zero=>intro _;exact⟨rfl,rfl⟩
  |succ i a=>
   intro hi
   obtain⟨h1,h2⟩:=a Oz
   have hi:i<F.length:=by omega
   have e1:(EN P T F[i]).length=2*(bj F[i]+1):=ZO _
   have e2:(EO P T F[i]).length=2*(bj F[i]+1):=ZO _
   rw[zev,aQ,dE,yY hi,List.flatMap_append,List.flatMap_append,aQ,aQ,zp hi]
   simp only[List.flatMap_cons,List.flatMap_nil,bP]
   omega
 have:=key F.length (aN _)
 rw[bE]at this
 exact this
theorem Yw{P:List Pc}{F:List Fq}{K:Nat}(h:cr P F K):iC P F K (eP P F):=by
 have e1:=ZS h.fl h.tu rfl h.n.2 h.pc
 cases a:eD P F with
 |false=>
  refine .arg a ?_
  unfold eD at a
  rw[a,aD Y8]at e1
  unfold eP
  rw[e1,aA,aG Y8]
 |true=>
  have e:=a
  unfold eD at e
  rw[e,aG rfl]at e1
  have b:=Il h a
  cases hf:first (az F) (dw F) F.length with
  |some x=>
   obtain⟨k,r⟩:=x
   refine .turn k r a hf ?_
   rw[Ko hf]at b
   unfold eP
   rw[e1,aA,aD Y8,aD (by simp only[aC];have:=h.n.1;omega),b,aA,aG Y8]
  |none=>
   rw[WH hf]at b
   have z:(xg P.length F).length=P.length:=by simp[xg]
   have A:∀t∈xg P.length F,V2 K 1 t:=λt G=>by
    obtain⟨i,_,rfl⟩:=List.mem_map.mp G
    exact zgz h i
   obtain⟨p,D,E⟩:=JI h.k rfl h.pc z A h.fl (Oq a)
   have B:∀{c:List Int} {L:List Bd},tS L P.length c->L.length=(jW F F.length).length->∃c',Kg c (jW F F.length) 14=some ([],c',14)/\nd L P.length (jW F F.length) c':=λ{c L} hc hl=>by
    obtain⟨⟨c0,c1⟩,v,s,hw,hs⟩:=hc
    obtain⟨c',j,u⟩:=Ax (of:=jW F F.length) c0 (by have:=h.n.2;omega) (λx hx=>by rw[<-hl];exact zfb hw x hx) 14
    exact⟨c',j,c,⟨⟨c0,c1⟩,v,s,hw,hs⟩,u⟩
   obtain⟨lX,lY⟩:=Oe (P:=P) (T:=xg P.length F) (F:=F)
   have pre:∀o,((Cm (P.length:Int) (Yb P (xg P.length F) F)).bind λm=>(if (decide (m.2.2≠0))=true then(Kg m.2.1 (jW F F.length) m.2.2)else((Cm (P.length:Int) (Xb P (xg P.length F) F)).bind λd=>(if (decide (d.2.2≠0))=true then(Kg d.2.1 (jW F F.length) d.2.2)else((tL (P.length:Int) F).bind λl=>(Bw P l (xg P.length F) m.1 d.1))))))=o->eP P F=o:=by
    rintro o rfl
    unfold eP
    rw[e1,aA,aD Y8,aD (by simp only[aC];have:=h.n.1;omega),b,aA,aD Y8]
    show((FK P F (xg P.length F)).bind _)=_
    rw[p]
    rfl
   rcases zhL h.k h.n D with⟨x,ex,hx⟩|⟨f,w,q,hw⟩
   .rcases zhL h.k h.n E with⟨y,C,g⟩|⟨f,w,q,hw⟩
    .refine .ok x y a hf hx g (pre _ ?_)
     have ro:=KD a
     have H:=ro.len
     rw[ex,aA,aD Y8,C,aA,aD Y8,sV h a,aA]
     refine By h.k h.n.2 rfl h.pc H (λi hi=>?_) z A hx.len g.len hx.num g.num
     have:=ro.le i hi
     rw[zp (show i<(xG P.length F).length by omega)]at this
     exact⟨this.1,by omega⟩
    .obtain⟨c,j,hc⟩:=B hw Oz
     refine .ys c a hf (λ⟨y,g⟩=>f ⟨y,dN.mpr g⟩) hc (pre _ ?_)
     rw[ex,aA,aD Y8,q,aA,aG Y8]
     exact j
   .obtain⟨c,j,hc⟩:=B hw Oz
    refine .xs c a hf (λ⟨y,g⟩=>f ⟨y,du.mpr g⟩) hc (pre _ ?_)
    rw[q,aA,aG Y8]
    exact j
end Go.Proofs.YtocnbjjmmgolfaaGreat
