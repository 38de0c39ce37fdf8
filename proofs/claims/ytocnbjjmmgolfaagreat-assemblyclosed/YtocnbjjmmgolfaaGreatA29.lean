/- zH law: the bounds of jh, and whether numbers keep them. -/
import Derived.Test.YtocnbjjmmgolfaaGreatA28
import Derived.Test.YtocnbjjmmgolfaaGreatA12
import Derived.Test.YtocnbjjmmgolfaaGreatA13
import Derived.Test.YtocnbjjmmgolfaaGreatA25
set_option linter.unusedSimpArgs false
set_option linter.unusedVariables false
set_option linter.unusedSectionVars false
namespace Go.Proofs.YtocnbjjmmgolfaaGreat
open Go Go.M Go.Proofs.C14
theorem YH{α:Type}{l:List α}{a:Int}(h0:0≤a)(h1:a<l.length):∃x∈l,idx l a=some x:=by
 obtain⟨k,rfl⟩:=Int.eq_ofNat_of_zero_le h0
 have:k<l.length:=by omega
 exact⟨l[k],aK this,zt this⟩
structure FtOK(n:Nat)(f:Fq):Prop where
 a0:0≤f.1
 ab:f.1<f.2.1
 bn:f.2.1<n
 e1:0≤f.2.2.1∧f.2.2.1<4
 e2:0≤f.2.2.2.1∧f.2.2.2.1<4
 m:1≤f.2.2.2.2.1∧f.2.2.2.2.1<4
theorem jX{p:Pc}(hp:PcOK p):p.2.2.1.length=4∧z93 p=some (p.2.2.1.map ptQ)∧zdO p=some (p.2.2.1.map ptQ)∧(∀x∈p.2.2.1,Nr 12 x)∧z92 (p.2.2.1.map ptQ)=some true∧z194 (p.2.2.1.map ptQ)=some true:=by
 obtain⟨a,b,c,d,e,⟨ha,hb,hc,hd⟩,k⟩:=hp.quad.ex
 have g:=ha.le (M:=1000) Uz
 have h:=hb.le (M:=1000) Uz
 have i:=hc.le (M:=1000) Uz
 have j:=hd.le (M:=1000) Uz
 have h1:=zfL e g h i j
 have h2:=zbi e g h i j
 rw[e]
 refine⟨rfl,h1,h2,fun x hx=>?_,?_,?_⟩
 ·simp only[aL,cH,or_false]at hx
  rcases hx with rfl|rfl|rfl|rfl
  ·exact ha
  ·exact hb
  ·exact hc
  ·exact hd
 ·rw[←k];exact zfM g h i j
 ·rw[←k,←quad_eq];exact zbg g h i j
abbrev Bd:=Int×Int×Rat
def BdOK(K n:Nat)(e:Bd):Prop:=(0≤e.1∧e.1<n)∧(0≤e.2.1∧e.2.1<n)∧QV (K*4) 60 e.2.2
def zhn(K n m:Nat)(L:List Bd):Prop:=L.length≤m∧∀e∈L,BdOK K n e
def cor(p:Pc)(j:Int):Rat×Rat:=ptQ (p.2.2.1.getD (Int.tmod j 4).toNat (0,0))
def zca(P:List Pc)(v:Int):Pc:=P.getD v.toNat default
def qW(T:List (Rat×Rat))(v:Int):(Rat×Rat):=T.getD v.toNat default
def dif(P:List Pc)(T:List (Rat×Rat))(f:Fq)(k:Nat):Rat×Rat:=wv (xL (qW T f.1) (cor (zca P f.1) (f.2.2.1+k))) (xL (qW T f.2.1) (cor (zca P f.2.1) (f.2.2.2.1+1-k+4)))
def ju(P:List Pc)(f:Fq):Rat:=(zca P f.1).2.2.2.2.2.1+(zca P f.2.1).2.2.2.2.2.1
def many(f:Fq):Nat:=f.2.2.2.2.1.toNat
def bdl(a b:Int)(d e:Rat):List Bd:=[(a,b,d+e),(b,a,e-d)]
def bdX(P:List Pc)(T:List (Rat×Rat))(f:Fq):List Bd:=(List.range (many f+1)).flatMap fun k=>bdl f.1 f.2.1 (dif P T f k).1 (ju P f)
def bdY(P:List Pc)(T:List (Rat×Rat))(f:Fq):List Bd:=(List.range (many f+1)).flatMap fun k=>bdl f.1 f.2.1 (dif P T f k).2 (ju P f)
def Zq(P:List Pc)(T:List (Rat×Rat))(F:List Fq):List Bd:=F.flatMap (bdX P T)
def Yc(P:List Pc)(T:List (Rat×Rat))(F:List Fq):List Bd:=F.flatMap (bdY P T)
def kQ(F:List Fq)(m:Nat):List Int:=(List.range m).flatMap fun j=>List.replicate (2*(many (F.getD j default)+1)) (j:Int)
theorem uf{a b:Int}{d:Nat→Rat}{e:Rat}:∀m:Nat,((List.range m).flatMap fun k=>bdl a b (d k) e).length=2*m
 |0=>rfl
 |m+1=>by rw[List.range_succ,List.flatMap_append,aQ,uf m];show 2*m+2=_;omega
theorem zfZ{a b:Int}{d:Nat→Rat}{e:Rat}(m:Nat):((List.range (m+1)).flatMap fun k=>bdl a b (d k) e)=((List.range m).flatMap fun k=>bdl a b (d k) e)++[(a,b,d m+e),(b,a,e-d m)]:=by
 rw[List.range_succ,List.flatMap_append];rfl
theorem JR{F:List Fq}{i:Nat}:kQ F (i+1)=kQ F i++List.replicate (2*(many (F.getD i default)+1)) (i:Int):=by
 unfold kQ
 rw[List.range_succ,List.flatMap_append]
 simp
theorem repl_two{x:Int}{k:Nat}:List.replicate (2*k) x++[x,x]=List.replicate (2*(k+1)) x:=by
 rw[show 2*(k+1)=2*k+1+1 by omega,List.replicate_succ',List.replicate_succ',bD];rfl
section
variable{K n:Nat}(hK:Kd K){P:List Pc}{F:List Fq}{T:List (Rat×Rat)}
section
variable(hP:P.length=n)(hp:∀p∈P,PcOK p)(hT:T.length=n)(ht:∀t∈T,V2 K 1 t){f:Fq}(hf:FtOK n f)
include hK hP hp hT ht hf
theorem zaJ{k:Nat}(hk:k≤many f):∃s∈P,∃u∈P,∃v∈T,∃tb∈T,∃c1 d:Int×Int,(zca P f.1=s∧zca P f.2.1=u∧qW T f.1=v∧qW T f.2.1=tb)∧(idx P f.1=some s∧idx P f.2.1=some u∧idx T f.1=some v∧idx T f.2.1=some tb)∧(idx s.2.2.1 (Int.tmod (f.2.2.1+k) 4)=some c1∧idx u.2.2.1 (Int.tmod (f.2.2.2.1+1-k+4) 4)=some d)∧Nr 12 c1∧Nr 12 d∧dif P T f k=wv (xL v (ptQ c1)) (xL tb (ptQ d))∧V2 K 48 (dif P T f k):=by
 obtain⟨a,b,ea,eb,m,rest⟩:=f
 obtain⟨a0,ab,bn,⟨g,i⟩,⟨l,o⟩,⟨H,m1⟩⟩:=hf
 simp only at a0 ab bn g i l o H m1
 have hk:k≤m.toNat:=hk
 obtain⟨a',rfl⟩:=Int.eq_ofNat_of_zero_le a0
 obtain⟨b',rfl⟩:=Int.eq_ofNat_of_zero_le (show 0≤b by omega)
 have ha:a'<P.length:=by omega
 have hb:b'<P.length:=by omega
 have q:a'<T.length:=by omega
 have r:b'<T.length:=by omega
 have B:∀{p:Pc},p∈P→∀{x:Int},0≤x→∃c,idx p.2.2.1 (Int.tmod x 4)=some c∧Nr 12 c∧cor p x=ptQ c:=fun{p} h {x} hx=>by
  obtain⟨l4,-,-,I,-⟩:=jX (hp p h)
  have h0:=Int.tmod_nonneg 4 hx
  have h1:=Int.tmod_lt_of_pos x (show(0:Int)<4 by decide)
  obtain⟨j,hj⟩:=Int.eq_ofNat_of_zero_le h0
  have e:j<p.2.2.1.length:=by omega
  refine⟨p.2.2.1[j],?_,I _ (aK _),?_⟩
  ·rw[hj,zt e]
  ·unfold cor
   rw[hj,show Int.toNat (j:Int)=j from rfl,zD e]
 obtain⟨c1,J,z,E⟩:=B (aK ha) (x:=ea+k) Oz
 obtain⟨d,L,A,G⟩:=B (aK hb) (x:=eb+1-k+4) Oz
 have e1:zca P (a':Int)=P[a']:=zD ha
 have e2:zca P (b':Int)=P[b']:=zD hb
 have w:qW T (a':Int)=T[a']:=zD q
 have y:qW T (b':Int)=T[b']:=zD r
 have ed:dif P T ((a':Int),(b':Int),ea,eb,m,rest) k=wv (xL T[a'] (ptQ c1)) (xL T[b'] (ptQ d)):=by
  unfold dif
  simp only[e1,e2,w,y,E,G]
 have C:=V2.rot (ht _ (aK q)) (uE z)
 have D:=V2.rot (ht _ (aK r)) (uE A)
 rw[cG]at C D
 refine⟨P[a'],aK _,P[b'],aK _,T[a'],aK _,T[b'],aK _,c1,d,⟨e1,e2,w,y⟩,⟨zt ha,zt hb,zt q,zt r⟩,⟨J,L⟩,z,A,ed,?_⟩
 rw[ed]
 exact C.sub D
theorem zhe:(∀e∈bdX P T f,BdOK K n e)∧∀e∈bdY P T f,BdOK K n e:=by
 have key:∀{d:Nat→Rat},(∀k,k≤many f→QV K 48 (d k))→∀e∈(List.range (many f+1)).flatMap fun k=>bdl f.1 f.2.1 (d k) (ju P f),BdOK K n e:=by
  intro d hd e he
  obtain⟨k,hk,he⟩:=List.mem_flatMap.mp he
  have hk:=dT.mp hk
  obtain⟨i,a,j,b,-,-,-,-,-,-,⟨e1,e2,-,-⟩,-⟩:=zaJ hK hP hp hT ht hf (show 0≤many f by omega)
  have t:=(hp i a).tol.1.add (hp j b).tol.1
  have g:QV 4 4 (ju P f):=by unfold ju;rw[e1,e2];exact t
  have c:=hd k Oz
  obtain⟨a0,ab,bn,-⟩:=hf
  unfold bdl at he
  simp only[aL,cH,or_false]at he
  rcases he with rfl|rfl
  ·exact⟨⟨a0,by show f.1<_;omega⟩,⟨by show 0≤f.2.1;omega,bn⟩,(c.up.add g.upl).le Uz⟩
  ·exact⟨⟨by show 0≤f.2.1;omega,bn⟩,⟨a0,by show f.1<_;omega⟩,(g.upl.sub c.up).le Uz⟩
 have dv:∀k,k≤many f→V2 K 48 (dif P T f k):=fun k hk=>by
  obtain⟨-,-,-,-,-,-,-,-,-,-,-,-,-,-,-,-,h⟩:=zaJ hK hP hp hT ht hf hk
  exact h
 exact⟨key fun k hk=>(dv k hk).1,key fun k hk=>(dv k hk).2⟩
end
theorem zgy{f:Fq}(hf:FtOK n f):many f≤3:=by
 have:=hf.m
 unfold many
 omega
include hK in
theorem Js(hP:P.length=n)(hp:∀p∈P,PcOK p)(hT:T.length=n)(ht:∀t∈T,V2 K 1 t)(hF:F.length≤6)(hf:∀f∈F,FtOK n f) :
 z68 P F T=some (Zq P T F,Yc P T F,kQ F F.length)∧zhn K n 60 (Zq P T F)∧zhn K n 60 (Yc P T F):=by
 have s0:=hK.s0 (B:=24) Uz
 have s1:=hK.s0 (B:=48) Uz
 have r:SB 4 4:=⟨by decide,by decide⟩
 have q:SB 4 2:=⟨by decide,by decide⟩
 have len:∀(i:Nat),((F.take i).flatMap (bdX P T)).length≤8*i∧((F.take i).flatMap (bdY P T)).length≤8*i∧(kQ F i).length≤8*i∨F.length<i:=by
  intro i
  induction i with
  |zero=>left;simp[kQ]
  |succ i R=>
   by_cases hi:i<F.length
   ·left
    obtain⟨h1,h2,h3⟩:=R.resolve_right Oz
    have mm:=zgy (hf _ (aK hi))
    refine⟨?_,?_,?_⟩
    ·rw[yz hi,List.flatMap_append,aQ]
     simp only[List.flatMap_cons,List.flatMap_nil,bM]
     have e:(bdX P T F[i]).length=2*(many F[i]+1):=uf _
     omega
    ·rw[yz hi,List.flatMap_append,aQ]
     simp only[List.flatMap_cons,List.flatMap_nil,bM]
     have e:(bdY P T F[i]).length=2*(many F[i]+1):=uf _
     omega
    ·rw[JR,aQ,dB,zD hi];omega
   ·right;omega
 refine⟨?_,⟨?_,fun e he=>?_⟩,⟨?_,fun e he=>?_⟩⟩
 rotate_left
 ·have:=(len F.length).resolve_right Oz
  rw[aY]at this
  show(F.flatMap _).length≤_
  omega
 ·obtain⟨f,h1,h2⟩:=List.mem_flatMap.mp he
  exact(zhe hK hP hp hT ht (hf f h1)).1 e h2
 ·have:=(len F.length).resolve_right Oz
  rw[aY]at this
  show(F.flatMap _).length≤_
  omega
 ·obtain⟨f,h1,h2⟩:=List.mem_flatMap.mp he
  exact(zhe hK hP hp hT ht (hf f h1)).2 e h2
 unfold z68
 refine zk F.length (fun i (x:Int×List Int×List Bd×List Bd)=>x=((i:Int),kQ F i,(F.take i).flatMap (bdX P T),(F.take i).flatMap (bdY P T))) (fun o=>o=_) Oz rfl ?_ ?_
 ·rintro i x g hi rfl hg
  have c:=hf _ (aK hi)
  obtain⟨lX,lY,lO⟩:=(len i).resolve_right Oz
  have mm3:=zgy c
  obtain⟨W,s,X,u,ta,j,tb,l,-,-,⟨c1,H,c3,c4⟩,⟨ipa,ipb,ita,itb⟩,-⟩:=zaJ hK hP hp hT ht c (show 0≤many F[i]by omega)
  have v:=hp _ s
  have w:=hp _ u
  have la:=(jX v).1
  have lb:=(jX w).1
  have he:=v.tol.1.add w.tol.1
  have C:=xr (v.tol.1.sm q) (w.tol.1.sm q)
  have I:ju P F[i]=W.2.2.2.2.2.1+X.2.2.2.2.2.1:=by unfold ju;rw[c1,H]
  rw[←I]at C he
  have hm:=c.m
  have mn:F[i].2.2.2.2.1=(many F[i]:Int):=by unfold many;omega
  have V:F.getD i default=F[i]:=zD hi
  rw[aF (zM hi)]
  simp only[zt hi,aA,ipa,ipb,C]
  rw[xh (show(F[i].2.2.2.2.1+1).natAbs<_ by omega)]
  simp only[aA]
  refine zk (many F[i]+1) (fun k (x:Int×List Int×List Bd×List Bd)=>x=((k:Int),kQ F i++List.replicate (2*k) (i:Int),(F.take i).flatMap (bdX P T)++((List.range k).flatMap fun k=>bdl F[i].1 F[i].2.1 (dif P T F[i] k).1 (ju P F[i])),(F.take i).flatMap (bdY P T)++((List.range k).flatMap fun k=>bdl F[i].1 F[i].2.1 (dif P T F[i] k).2 (ju P F[i])))) (fun o=>o=_) Oz Y8 ?_ ?_
  ·rintro k x h hk rfl J
   obtain⟨pa',-,pb',-,ta',hta',tb',htb',v1,v2,-,⟨jpa,jpb,jta,jtb⟩,⟨Y,Z⟩,z,A,ed,dv⟩:=zaJ hK hP hp hT ht c (show k≤many F[i]by omega)
   rw[ipa]at jpa;rw[ipb]at jpb;rw[ita]at jta;rw[itb]at jtb
   cases jpa;cases jpb;cases jta;cases jtb
   have S:=Xf (ht _ j) (uE z) (hK.s0 Uz) ⟨by decide,by decide⟩ (hK.s1 Uz)
   have U:=Xf (ht _ l) (uE A) (hK.s0 Uz) ⟨by decide,by decide⟩ (hK.s1 Uz)
   have E:=V2.rot (ht _ j) (uE z)
   have G:=V2.rot (ht _ l) (uE A)
   rw[cG]at E G
   have t1:=jo (z.le (M:=10000) Uz)
   have t2:=jo (A.le (M:=10000) Uz)
   have e1:=c.e1
   have e2:=c.e2
   have L:i64 (F[i].2.2.1+k)=some (F[i].2.2.1+k):=xh Oz
   have N:i64 (F[i].2.2.2.1+1)=some (F[i].2.2.2.1+1):=xh Oz
   have O:i64 (F[i].2.2.2.1+1-k)=some (F[i].2.2.2.1+1-k):=xh Oz
   have Q:i64 (F[i].2.2.2.1+1-k+4)=some (F[i].2.2.2.1+1-k+4):=xh Oz
   have n4:¬((4:Int)=0):=by decide
   have D:=z126_v E G s0 s0
   rw[←ed]at D
   have m1:=xr (dv.1.sm s1) (he.sm r)
   have m2:=vv (he.sm r) (dv.1.sm s1)
   have m3:=xr (dv.2.sm s1) (he.sm r)
   have m4:=vv (he.sm r) (dv.2.sm s1)
   have lb1:=uf (a:=F[i].1) (b:=F[i].2.1) (d:=fun k=>(dif P T F[i] k).1) (e:=ju P F[i]) k
   have lb2:=uf (a:=F[i].1) (b:=F[i].2.1) (d:=fun k=>(dif P T F[i] k).2) (e:=ju P F[i]) k
   have sn1:=zfZ (a:=F[i].1) (b:=F[i].2.1) (d:=fun k=>(dif P T F[i] k).1) (e:=ju P F[i]) k
   have sn2:=zfZ (a:=F[i].1) (b:=F[i].2.1) (d:=fun k=>(dif P T F[i] k).2) (e:=ju P F[i]) k
   rw[aF (aH (by show(k:Int)<_;omega))]
   simp only[L,N,O,Q,la,lb,aA,Y,Z,ita,itb,t1,t2,uS S,uS U,D,show((4:Nat):Int)=4 from rfl,aD n4]
   simp only[show ∀x y:Rat,idx [x,y] 0=some x from fun _ _=>rfl,show ∀x y:Rat,idx [x,y] 1=some y from fun _ _=>rfl,aA,m1,m2,m3,m4]
   generalize dif P T F[i] k=dd at *
   rw[yF (by rw[aQ,lb1];show _+2≤_;omega),aA,yF (by rw[aQ,lb2];show _+2≤_;omega),aA,yF (by simp;omega),aA,zp (show k<100000 by omega)]
   simp only[aA]
   refine J _ ?_
   rw[bD,bD,bD,repl_two,sn1,sn2]
  ·rintro x h rfl
   rw[aD (by simp only[aB];omega),zp (show i<100000 by omega)]
   simp only[aA]
   refine hg _ ?_
   rw[JR,V,yz hi,List.flatMap_append,List.flatMap_append]
   simp only[List.flatMap_cons,List.flatMap_nil,bM]
   rfl
 ·rintro x g rfl
  rw[aD Y8,aY]
  rfl
theorem zgz(hn:0<n∧n≤4){X:List Bd}(hX:X.length≤60)(hb:∀e∈X,BdOK K n e):z128 (n:Int) X=some (((n:Int),X),true):=by
 unfold z128
 rw[aF (aH Oz),aF (aH Oz),aF (aH Oz)]
 refine zk X.length (fun i x=>x=(i:Int)) (fun o=>o=_) Oz rfl ?_ ?_
 ·rintro i x g hi rfl hg
  obtain⟨⟨h1,h2⟩,⟨h3,h4⟩,-⟩:=hb _ (aK hi)
  rw[aF (zM hi)]
  simp only[zt hi,aA]
  rw[aD (by simp only[aB];omega),aD (by simp only[aB];omega),aD (by simp only[aB];omega),aD (by simp only[aB];omega),zp (show i<100000 by omega)]
  exact hg _ rfl
 ·rintro x g rfl
  rw[aD Y8]
end
theorem num_neg'{x:Rat}:x.num<0↔x<0:=by
 have:= @Rat.num_nonneg x
 constructor
 ·intro h;exact Rat.not_le.mp fun g=>absurd (this.mpr g) Oz
 ·intro h;exact cY fun g=>absurd (this.mp Oz) (Rat.not_le.mpr h)
def sgR(x:Rat):Int:=yC x.num 0
theorem ZF{x:Rat}(h:Sm x):qP x=some (sgR x):=Kt h
theorem sgR_neg{x:Rat}:sgR x<0↔x<0:=by unfold sgR;rw[kI,num_neg']
theorem sgR_0{x:Rat}:sgR x=0↔x=0:=by unfold sgR;rw[kJ,Rat.num_eq_zero]
theorem sgR_pos{x:Rat}:0<sgR x↔0<x:=by
 have h1:= @sgR_neg x
 have h2:= @sgR_0 x
 constructor
 ·intro h
  rcases(Rat.le_total:x≤0∨0≤x)with g|g
  ·have:x<0∨x=0:=by
    by_cases e:x=0
    ·exact .inr e
    ·left;grind
   rcases this with e|e
   ·have:=h1.mpr e;omega
   ·have:=h2.mpr e;omega
  ·have:x≠0:=fun e=>by have:=h2.mpr e;omega
   grind
 ·intro h
  have a:¬sgR x<0:=fun q=>by have:=h1.mp q;grind
  have b:¬sgR x=0:=fun q=>by have:=h2.mp q;grind
  omega
theorem cmpQ_le{x y:Rat}:wd x y≤0↔x≤y:=by
 have:= @cmpQ_pos x y
 rw[←Rat.not_lt,←this]
 omega
theorem QV.top{d B:Nat}{x:Rat}(h:QV d B x)(hd:0<d):x≤qI (B:Int):=by
 obtain⟨n,hn,hb⟩:=h
 refine Rat.not_lt.mp fun hc=>?_
 have a:(0:Rat)<(d:Rat):=by exact_mod_cast hd
 have h1:qI (B:Int)*(d:Rat)<x*(d:Rat):=Rat.mul_lt_mul_of_pos_right hc a
 rw[hn]at h1
 have h2:(((B:Int)*(d:Int):Int):Rat)<(n:Rat):=by
  unfold qI at h1
  push_cast
  push_cast at h1
  exact h1
 have h3:((B:Int)*(d:Int))<n:=by exact_mod_cast h2
 have h4:((d*B:Nat):Int)=(B:Int)*(d:Int):=by push_cast;exact Int.mul_comm ..
 omega
theorem within_ok{a lo hi:Int}(h1:lo≤a)(h2:a≤hi):VT a lo hi=some true:=by
 unfold VT
 rw[aF (aH h1),aH h2]
theorem smQ(n:Int)(h:n.natAbs<100000:=by decide):Sm (qI n):=jw (by unfold SmI;omega)
theorem qI_le{m n:Int}(h:m≤n):qI m≤qI n:=by unfold qI;exact_mod_cast h
theorem qI_lt{m n:Int}(h:m<n):qI m<qI n:=by unfold qI;exact_mod_cast h
section
variable{p:Pc}(hp:PcOK p)
include hp
theorem nums_ok:(∀y∈[p.2.2.2.2.2.1,p.2.2.2.2.2.2.1,p.2.2.2.2.2.2.2.1,p.2.2.2.2.2.2.2.2.1,p.2.2.2.2.2.2.2.2.2],Sm y∧0≤y)∧p.2.2.2.2.2.1≤qI 4∧p.2.2.2.2.2.2.1≤qI 1000∧p.2.2.2.2.2.2.2.1≤qI 1000∧p.2.2.2.2.2.2.2.2.2≤qI 4∧0<p.2.2.2.2.2.2.2.2.1:=by
 have s1:SB 4 2:=⟨by decide,by decide⟩
 have s2:SB 2 10:=⟨by decide,by decide⟩
 have t1:=hp.tol.1.top Uz
 have t2:=hp.light.1.top Uz
 have g:=hp.heavy.1.top Uz
 have h:qI 2≤qI 4:=qI_le Uz
 have c:qI 10≤qI 1000:=qI_le Uz
 have b:=hp.light.2
 have e:=hp.heavy.2
 have q0:qI 0=0:=rfl
 have d:qI 0<qI 100:=qI_lt Uz
 have i:qI 1≤qI 4:=qI_le Uz
 have hf:Sm (Rat.divInt 1 2)∧0≤Rat.divInt 1 2∧Rat.divInt 1 2≤qI 4:=by
  refine⟨by decide,by decide,?_⟩
  have:Rat.divInt 1 2≤qI 1:=by unfold qI;decide
  exact dO this i
 refine⟨fun y a=>?_,dO t1 h,dO t2 c,dO g c,by rw[hp.rough];exact hf.2.2,by rw[hp.strength];exact d⟩
 simp only[aL,cH,or_false]at a
 rcases a with rfl|rfl|rfl|rfl|rfl
 ·exact⟨hp.tol.1.sm s1,hp.tol.2⟩
 ·exact⟨hp.light.1.sm s2,Rat.le_of_lt b⟩
 ·exact⟨hp.heavy.1.sm s2,dO (Rat.le_of_lt b) e⟩
 ·rw[hp.strength];exact⟨smQ 100,Rat.le_of_lt d⟩
 ·rw[hp.rough];exact⟨hf.1,hf.2.1⟩
theorem range_ok:z191 p=some true:=by
 obtain⟨l4,-,-,j,-,-⟩:=jX hp
 have d:=hp.marks
 have l5:p.2.2.2.2.1.length=4:=by rw[d];rfl
 have e:∀y∈p.2.2.2.2.1,y=0:=by rw[d];simp
 have c:∀{a lo hi:Int},lo≤a→a≤hi→VT a lo hi=some true:=fun h1 h2=>within_ok h1 h2
 unfold z191
 generalize VT=W at c ⊢
 generalize hlo:(-65536:Int)=lo
 generalize hhi:(65536:Int)=hi
 refine zk 4 (fun i x=>x=(i:Int)) (fun o=>o=_) Oz rfl ?_ ?_
 ·rintro i x g hi rfl hg
  have b:i<p.2.2.1.length:=by omega
  have h:=j _ (aK b)
  obtain⟨h1,h2⟩:=h
  rw[aF (zM b)]
  rw[zt b,aA]
  rw[c Oz Oz]
  rw[aA,aD Uz]
  rw[c Oz Oz]
  rw[aA,aD Uz,zp (show i<100000 by omega),aA]
  exact hg _ rfl
 ·rintro x g rfl
  rw[aD (by simp only[aB];omega)]
  refine zk 4 (fun i x=>x=(i:Int)) (fun o=>o=_) Oz rfl ?_ ?_
  ·rintro i x g hi rfl hg
   have b:i<p.2.2.2.2.1.length:=by omega
   have h0:p.2.2.2.2.1[i]=0:=e _ (aK b)
   rw[aF (zM b)]
   rw[zt b,aA,h0]
   rw[c Oz Oz]
   rw[aA,aD Uz,zp (show i<100000 by omega),aA]
   exact hg _ rfl
  ·rintro x g rfl
   rw[aD (by simp only[aB];omega),c hp.id.1 hp.id.2]
   rw[aA,aF rfl]
   rw[c hp.home.1 hp.home.2]
   rfl
theorem pieceP_ok:z117 p=some 0:=by
 obtain⟨l4,-,k,nr,-,q⟩:=jX hp
 obtain⟨hn,b,-,c,d,e⟩:=nums_ok hp
 have a:=hp.marks
 have l5:p.2.2.2.2.1.length=4:=by rw[a];rfl
 have hz:∀y∈p.2.2.2.2.1,y=0:=by rw[a];simp
 have w4:=hp.worn
 unfold z117
 rw[range_ok hp]
 simp only[aA,eJ,aX,cK]
 rw[aD (by simp only[aB];omega),aD (by simp only[aB];omega),aD (by simp only[aB];omega)]
 unfold z192
 simp only[aA]
 refine zk 5 (fun i x=>x=(i:Int)) (fun o=>o=_) Oz rfl ?_ ?_
 ·rintro i x g hi rfl hg
  have h:=hn _ (aK (show i<[p.2.2.2.2.2.1,p.2.2.2.2.2.2.1,p.2.2.2.2.2.2.2.1,p.2.2.2.2.2.2.2.2.1,p.2.2.2.2.2.2.2.2.2].length from hi))
  rw[aF (aH Oz),zt (show i<[p.2.2.2.2.2.1,p.2.2.2.2.2.2.1,p.2.2.2.2.2.2.2.1,p.2.2.2.2.2.2.2.2.1,p.2.2.2.2.2.2.2.2.2].length from hi)]
  generalize [p.2.2.2.2.2.1,p.2.2.2.2.2.2.1,p.2.2.2.2.2.2.2.1,p.2.2.2.2.2.2.2.2.1,p.2.2.2.2.2.2.2.2.2][i]=y at *
  simp only[aA,gP h.1,ZF h.1,eJ,aX,cK]
  rw[aD (by simp only[aB,sgR_neg];exact Rat.not_lt.mpr h.2),zp (show i<100000 by omega)]
  exact hg _ rfl
 ·rintro x g rfl
  have j:ofG 4 1=some (qI 4):=ofI Uz
  have q1000:ofG 1000 1=some (qI 1000):=ofI Uz
  have st:=(hn _ (show p.2.2.2.2.2.1∈_ by simp)).1
  have sl:=(hn _ (show p.2.2.2.2.2.2.1∈_ by simp)).1
  have sh:=(hn _ (show p.2.2.2.2.2.2.2.1∈_ by simp)).1
  have m:=(hn _ (show p.2.2.2.2.2.2.2.2.1∈_ by simp)).1
  have l:=(hn _ (show p.2.2.2.2.2.2.2.2.2∈_ by simp)).1
  rw[aD Uz]
  simp only[j,q1000,aA,q8 st (smQ 4),q8 l (smQ 4),q8 sh (smQ 1000),q8 sl sh,ZF sl,ZF m,cmpQ_le,sgR_pos,k,q]
  rw[aF (aH b),aF (aH hp.light.2),aF (aH hp.heavy.2)]
  rw[aD (by simp[d]),aD (by simp[c]),aD (by simp only[aB];have:=sgR_pos.mpr e;omega)]
  rfl
end
def Y4(t:Rat×Rat):Bool:=decide (t.1*t.1+t.2*t.2=1)
theorem JI{d:Nat}{t:Rat×Rat}(hd:Kd d)(h:V2 d 12 t):z63 t=some (Y4 t)∧z54 t=some (Y4 t):=by
 have s:=hd.s0 (B:=12) Uz
 have m1:=h.1.mul h.1
 have m2:=h.2.mul h.2
 have s2:SB (d*d) 288:=by
  have:=eE hd.2 hd.2
  exact⟨Nat.mul_pos hd.1 hd.1,by omega⟩
 have a:=(m1.le (C:=288) Uz).sm s2
 have b:=(m2.le (C:=288) Uz).sm s2
 have c:=(m1.add m2).sm s2
 have e:ofG 1 1=some (qI 1):=ofI Uz
 unfold z63 z54
 simp only[gP (h.1.sm s),gP (h.2.sm s),aA,dP,eJ,aX,cK,qM (h.1.sm s) (h.1.sm s),qM (h.2.sm s) (h.2.sm s),Y3 a b,xr a b,e,uX c (smQ 1)]
 exact⟨rfl,rfl⟩
def TuOK(f:Fq):Prop:=∃d,Kd d∧V2 d 1 f.2.2.2.2.2.1∧Y4 f.2.2.2.2.2.1=true
def jb(n:Nat)(F:List Fq):Bool:=F.all fun f=>decide (0≤f.1∧f.1<f.2.1∧f.2.1<n)
def Ko(f:Fq):Bool:=decide ((0≤f.2.2.1∧f.2.2.1<4)∧(0≤f.2.2.2.1∧f.2.2.2.1<4)∧(1≤f.2.2.2.2.1∧f.2.2.2.2.1<4))
theorem tu_ok{f:Fq}(h:TuOK f):z63 f.2.2.2.2.2.1=some true∧z54 f.2.2.2.2.2.1=some true:=by
 obtain⟨d,hd,h1,h2⟩:=h
 have:=JI hd ⟨h1.1.le Uz,h1.2.le Uz⟩
 rw[h2]at this
 exact this
section
variable{n:Nat}{F:List Fq}(hF:F.length≤6)(ht:∀f∈F,TuOK f)
include hF ht
theorem zbL:z44 (n:Int) F=some (jb n F):=by
 unfold z44
 ·refine zk F.length (fun i x=>x=(i:Int)∧jb n (F.take i)=true) (fun o=>o=_) Oz ⟨rfl,rfl⟩ ?_ ?_
  ·rintro i x g hi ⟨rfl,a⟩ hg
   rw[aF (zM hi)]
   simp only[zt hi,aA,(tu_ok (ht _ (aK hi))).1,eJ,aX,cK,zp (show i<100000 by omega),show decide ((0:Int)≤(i:Int))=true from aH Oz]
   by_cases c:0≤F[i].1∧F[i].1<F[i].2.1∧F[i].2.1<n
   ·rw[aD (by simp only[aB];omega),aD (by simp only[aB];omega),aD (by simp only[aB];omega)]
    exact hg _ ⟨rfl,YZ hi a (aH c)⟩
   ·rw[show jb n F=false from QT hi (bA c)]
    by_cases c1:F[i].1<0
    ·rw[aF (aH c1)]
    rw[aD (by simp only[aB];omega)]
    by_cases b:F[i].2.1≤F[i].1
    ·rw[aF (aH b)]
    rw[aD (by simp only[aB];omega),aF (aH Oz)]
  ·rintro x g ⟨rfl,a⟩
   rw[aD Y8]
   rw[aY]at a
   rw[a]
omit ht in
theorem strP_ok{P:List Pc}(hP:P.length=n)(hp:∀p∈P,PcOK p)(b:jb n F=true):z119 P F=some (F.all Ko):=by
 unfold z119
 refine zk F.length (fun i x=>x=(i:Int)∧(F.take i).all Ko=true) (fun o=>o=_) Oz ⟨rfl,rfl⟩ ?_ ?_
 ·rintro i x g hi ⟨rfl,hs⟩ hg
  have h0:=dE (List.all_eq_true.mp b _ (aK hi))
  obtain⟨pa,d,ipa⟩:=YH (l:=P) h0.1 Oz
  obtain⟨pb,e,ipb⟩:=YH (l:=P) (a:=F[i].2.1) Oz Oz
  have la:=(jX (hp _ d)).1
  have lb:=(jX (hp _ e)).1
  rw[aF (zM hi)]
  simp only[zt hi,aA,ipa,ipb,la,lb,zp (show i<100000 by omega),show min ((4:Nat):Int) ((4:Nat):Int)=4 from rfl,show((4:Nat):Int)=4 from rfl]
  by_cases c:Ko F[i]=true
  ·have c':=dE c
   rw[aD (by simp only[aB];omega),aD (by simp only[aB];omega),aD (by simp only[aB];omega),aD (by simp only[aB];omega),aD (by simp only[aB];omega),aD (by simp only[aB];omega)]
   exact hg _ ⟨rfl,YZ hi hs c⟩
  ·rw[show F.all Ko=false from QT hi (by simpa using c)]
   have c':¬((0≤F[i].2.2.1∧F[i].2.2.1<4)∧(0≤F[i].2.2.2.1∧F[i].2.2.2.1<4)∧(1≤F[i].2.2.2.2.1∧F[i].2.2.2.2.1<4)):=fun q=>c (aH q)
   by_cases c1:F[i].2.2.1<0
   ·rw[aF (aH c1)]
   rw[aD (by simp only[aB];omega)]
   by_cases h:4≤F[i].2.2.1
   ·rw[aF (aH h)]
   rw[aD (by simp only[aB];omega)]
   by_cases j:F[i].2.2.2.1<0
   ·rw[aF (aH j)]
   rw[aD (by simp only[aB];omega)]
   by_cases k:4≤F[i].2.2.2.1
   ·rw[aF (aH k)]
   rw[aD (by simp only[aB];omega)]
   by_cases m:F[i].2.2.2.2.1<1
   ·rw[aF (aH m)]
   rw[aD (by simp only[aB];omega),aF (aH Oz)]
 ·rintro x g ⟨rfl,b⟩
  rw[aD Y8]
  rw[aY]at b
  rw[b]
theorem uj{P:List Pc}(a:P.length=n)(hn:n≤4)(hp:∀p∈P,PcOK p):z61 P F=some (if (jb n F&&F.all Ko)=true then 0 else 1):=by
 have r1:=zbL (n:=n) hF ht
 have bad:∀p∈P,z116 p=some false:=fun p h=>by unfold z116;rw[pieceP_ok (hp p h)];rfl
 unfold z61
 rw[aD (by simp only[aB];omega),aD (by simp only[aB];omega)]
 refine zk P.length (fun i x=>x=(i:Int)) (fun o=>o=_) Oz rfl ?_ ?_
 ·rintro i x g hi rfl hg
  rw[aF (zM hi)]
  simp only[zt hi,aA,bad _ (aK hi),aX,cK,zp (show i<100000 by omega)]
  exact hg _ rfl
 ·rintro x g rfl
  rw[aD Y8,a,r1]
  simp only[aA]
  cases b:jb n F
  ·rfl
  ·rw[aD Uz,strP_ok hF a hp b]
   cases F.all Ko<;>rfl
end
structure FitOK(f:Fq):Prop where
 a:yy f.1
 b:yy f.2.1
 tn:Tn 17 f.2.2.2.2.2.1
def ends(F:List Fq)(k:Nat):Int×Int:=((F.getD k default).1,(F.getD k default).2.1)
theorem zgQ{e:Nat→Int×Int}{tr:List Nat}:∀{f:Nat} {v w l:Int} {r:List Nat},dfs e tr f v w l=some r→r.length≤f
 |0,_,_,_,_,h=>by cases h
 |f+1,v,w,l,r,h=>by
  rw[dfs]at h
  split at h
  ·cases h;simp
  ·obtain⟨k,_,h⟩:=List.exists_of_findSome?_eq_some h
   split at h
   ·cases h
   ·cases hd:dfs e tr f (oth e k v) w k with
    |none=>rw[hd]at h;cases h
    |some r'=>
     rw[hd]at h
     obtain rfl:=(cR h).symm
     have:=zgQ hd
     simp only[aW]
     omega
section
variable{n:Nat}{F:List Fq}(hE:∀f∈F,0≤f.1∧f.1<f.2.1∧f.2.1<(n:Int))(hn:n≤4)
theorem zaE{k:Nat}(hk:k<F.length):idx F (k:Int)=some F[k]∧ends F k=(F[k].1,F[k].2.1):=by
 refine⟨zt hk,?_⟩
 unfold ends
 rw[aC,aE hk]
 rfl
theorem ren_ok{l:List Int}(h0:0<l.length)(h4:l.length≤4)(a b:Int):z55 l a b=some (l.map fun x=>if x=a then b else x):=by
 unfold z55
 rw[aF h0,yF (by simp only[List.length_nil];omega),aA,cI]
 refine zk l.length (fun i (x:Int×List Int)=>x=((i:Int),(l.take i).map (fun x=>if x=a then b else x)++l.drop i)) (fun o=>o=some (l.map fun x=>if x=a then b else x)) Oz Y8 ?_ ?_
 ·rintro i x g hi rfl hg
  dsimp only
  have hd:=List.drop_eq_getElem_cons hi
  have d:((l.take i).map (fun x=>if x=a then b else x)).length=i:=by rw[bI,bU];omega
  have hlen:i<((l.take i).map (fun x=>if x=a then b else x)++l.drop i).length:=by rw[aQ,d,bZ];omega
  have e:l.take (i+1)=l.take i++[l[i]]:=(List.take_append_getElem hi).symm
  rw[aF (zM hi),zt hi,aA]
  by_cases c:l[i]=a
  ·rw[aF (aH c),zt hlen,aA,aA,zp Oz,aA,yT,Int.toNat_natCast]
   refine hg _ ?_
   rw[e,List.map_append,List.map_cons,aF c,hd,List.set_append_right _ _ Oz,d,Nat.sub_self]
   simp
   rw[hd]
   rfl
  ·rw[aD (by rw[aB];exact c),zp Oz,aA]
   refine hg _ ?_
   rw[e,List.map_append,List.map_cons,aD c,hd]
   simp
 ·rintro x g rfl
  dsimp only
  rw[aD Y8,aY,List.drop_length,bM]
include hE hn in
theorem WL(h6:F.length≤6)(l:z44 (n:Int) F=some true):z17 (n:Int) F=some (roots (ends F) n F.length):=by
 unfold z17
 rw[aD (by rw[aB];omega),aD (by rw[aB];omega),l,aA,aD Uz]
 refine zk n (fun i (x:Int×List Int)=>x=((i:Int),(List.range i).map fun(i:Nat)=>(i:Int))) (fun o=>o=some (roots (ends F) n F.length)) Oz rfl ?_ ?_
 ·rintro i x g hi rfl hg
  dsimp only
  rw[aF (zM hi),yF (by simp;omega),aA,zp Oz,aA]
  exact hg _ (by rw[List.range_succ,List.map_append];rfl)
 ·rintro x g rfl
  dsimp only
  rw[aD Y8]
  refine zk F.length (fun i (x:List Int×Int)=>x=(roots (ends F) n i,(i:Int))) (fun o=>o=some (roots (ends F) n F.length)) Oz rfl ?_ ?_
  ·rintro i x j hi rfl e
   obtain⟨e1,e2⟩:=zaE hi
   have hb:=hE _ (aK hi)
   have h:RootsOf (ends F) n (yG (ends F) i) (roots (ends F) n i):=u7 fun k hk=>by
    rw[(zaE (show k<F.length by omega)).2];exact hE _ (aK _)
   have hlen:=h.len
   have c:=roots.eq_2 (ends F) n i
   rw[e2]at c
   unfold K3 at c
   dsimp only at c ⊢
   generalize roots (ends F) n i=R at *
   obtain⟨a,ha⟩:∃a:Nat,F[i].1=a:=⟨F[i].1.toNat,by omega⟩
   obtain⟨b,d⟩:∃b:Nat,F[i].2.1=b:=⟨F[i].2.1.toNat,by omega⟩
   rw[ha,d,Int.toNat_natCast,Int.toNat_natCast]at c
   rw[aF (zM hi),e1,aA,ha,d,xB Oz,xB Oz,aA,aA,ren_ok Oz Oz,aA,zp Oz,aA]
   exact e _ (by rw[c])
  ·rintro x j rfl
   dsimp only
   rw[aD Y8]
end
theorem bf94:VJ Tryz.prog 94=some ([.slice none 0 0,.slice none 0 0,.slice none 0 0,.slice none 0 0,.slice none 0 0,.slice none 0 0,.slice none 0 0,.slice none 0 0,.slice none 0 0,.slice none 0 0,.slice none 0 0,.slice none 0 0,.slice none 0 0],[(0,1),(1,12)]):=by kernel_rfl
theorem fb11:vG Tryz.f11 (Tryz.f11.body.getD .skip) 2=true:=by kernel_rfl
theorem fc17:xH Tryz.prog 17=true:=by kernel_rfl
theorem fc44:xH Tryz.prog 44=true:=by kernel_rfl
theorem fc45:xH Tryz.prog 45=true:=by kernel_rfl
theorem fc46:xH Tryz.prog 46=true:=by kernel_rfl
theorem fc47:xH Tryz.prog 47=true:=by kernel_rfl
theorem fc48:xH Tryz.prog 48=true:=by kernel_rfl
theorem sl42:ql Tryz.prog 42=some (36,8,128,[.bool false,.slice none 0 0,.bool false,.slice none 0 0,.bool false,.slice none 0 0,.bool false,.slice none 0 0]):=by kernel_rfl
theorem un24:Tryz.prog.underlying 24=some (.slice 40):=by kernel_rfl
theorem un42:Tryz.prog.underlying 42=some (.slice 36):=by kernel_rfl
def xN(n:Nat)(F:List Fq):List Int:=roots (eds F) n F.length
def xi(n:Nat)(F:List Fq)(i:Nat):Q2:=xJ (eds F) (trn F) ((way (eds F) (yG (eds F) F.length) ((xN n F).getD i 0) i).getD []) ((xN n F).getD i 0) zX
def ZC(n:Nat)(F:List Fq):List Q2×List Int×Int:=
 match first (eds F) (trn F) F.length with
 |some (k,r)=>([],(nts r).foldl Qw [(k:Int)],14)
 |none=>((List.range n).map (xi n F),[],0)
structure PreT(n:Nat)(F:List Fq):Prop where
 n4:n≤4
 l6:F.length≤6
 right:z44 (n:Int) F=some true
 ends:∀f∈F,0≤f.1∧f.1<f.2.1∧f.2.1<(n:Int)
 tn:∀f∈F,Tn 25 f.2.2.2.2.2.1
open Classical in
noncomputable def z11(n:Int)(F:List Fq):Option (List Q2×List Int×Int):=if 0≤n∧PreT n.toNat F then some (ZC n.toNat F)else none
theorem z11_some{n:Int}{F:List Fq}{r:List Q2×List Int×Int}(h:z11 n F=some r):(0≤n∧PreT n.toNat F)∧r=ZC n.toNat F:=by
 unfold z11 at h
 split at h
 ·next hp=>exact⟨hp,(cR h).symm⟩
 ·cases h
theorem jT{n:Nat}{F:List Fq}{k:Nat}{r:List Nat}(h:first (eds F) (trn F) F.length=some (k,r)):ZC n F=([],(nts r).foldl Qw [(k:Int)],14):=by rw[ZC,h]
theorem gQ{n:Nat}{F:List Fq}(h:first (eds F) (trn F) F.length=none):ZC n F=((List.range n).map (xi n F),[],0):=by rw[ZC,h]
section
variable{e:Nat→Int×Int}{T:Nat→Q2}
theorem ZR{n:Nat}(h:first e T n=none):first e T (n+1)=(v7 e T n).map (n, ·):=by rw[first,h]
theorem zeN{n:Nat}{x:Nat×List Nat}(h:first e T n=some x):∀{m:Nat},n≤m→first e T m=some x:=fun{m} a=>by
 induction a with
 |refl=>exact h
 |step _ b=>rw[first,b]
theorem zfk{k:Nat}(h:way e (yG e k) (e k).1 (e k).2=none):v7 e T k=none:=by unfold v7;rw[h]
theorem clash_ok{k:Nat}{r:List Nat}(h:way e (yG e k) (e k).1 (e k).2=some r)(h2:xJ e T r (e k).1 zX=T k):v7 e T k=none:=by unfold v7;rw[h];exact aF h2
theorem zfj{k:Nat}{r:List Nat}(h:way e (yG e k) (e k).1 (e k).2=some r)(h2:¬xJ e T r (e k).1 zX=T k):v7 e T k=some r:=by unfold v7;rw[h];exact aD h2
theorem zds:∀{a:Nat} (r:List Nat) (_:∀k∈r,Tn 25 (T k)) (v:Int) {t:Q2} (_:Tn (25 ^ a) t),Tn (25 ^ (a+r.length)) (xJ e T r v t)
 |_,[],_,_,_,h=>h
 |a,k::r,b,v,t,h=>by
  have hk:=b k (aP ..)
  have h2:Tn (25 ^ (a+1)) (aft t (if (e k).1=v then T k else bck (T k))):=by
   rw[Nat.pow_succ]
   refine h.aft ?_
   split
   ·exact hk
   ·exact hk.bck
  have:=zds r (fun j hj=>b j (aN _ hj)) (oth e k v) h2
  rw[aW,show a+(r.length+1)=a+1+r.length by omega]
  exact this
end
theorem same_tn{a b:Q2}(h:Tn (25 ^ 6) a)(g:Tn (25 ^ 6) b):z47 a b=some (decide (a=b)):=by
 have h1:=Tn.sm h Uz
 have g1:=Tn.sm g Uz
 have e1:(decide (a=b))=(decide (a.1=b.1)&&decide (a.2=b.2)):=by
  rw[←Bool.decide_and]
  congr 1
  exact propext ⟨fun q=>by rw[q];exact⟨rfl,rfl⟩,fun q=>Prod.ext q.1 q.2⟩
 unfold z47
 rw[uX h1.1 g1.1,uX h1.2 g1.2,e1]
 simp only[aA]
 cases decide (a.1=b.1)<;>rfl
theorem d44:qA 44 77222 [.int .i64,S40] .bool fun x=>z44 x.1 x.2:=t44 44 _ rfl
theorem d17:qA 17 77319 [.int .i64,S40] S3 fun x=>z17 x.1 x.2:=t17 17 _ rfl
theorem d47:qA 47 26 [T36,T36] .bool fun x=>z47 x.1 x.2:=t47 47 _ rfl
theorem ltake_app{α:Type}{m:Nat}{c l r:List α}(h:y8 m c=some l):y8 m (c++r)=some l:=by
 rw[y7]at h ⊢
 split at h
 ·rw[aF (by rw[aQ];omega),List.take_append_of_le_length Z1];exact h
 ·cases h
theorem zax{sz:Nat}{es:List (List Value)}{r:List Value}(h:∀x∈es,x.length=sz){k:Nat}(hk:k<es.length):y8 sz (xw (0+k*sz) (es.flatten++r))=some (es.getD k []):=by
 have h1:=gm h hk
 have h2:0+k*sz≤es.flatten.length:=by
  rw[qU h];have:=bN sz (Nat.le_of_lt hk);omega
 rw[yU,List.drop_append_of_le_length h2]
 rw[yU]at h1
 exact ltake_app h1
theorem rep_ints{U:Wd}{b cap len:Nat}{l:List Int}{rest:List Value}(hl:len=l.length)(hc:l.length≤cap / 2):Rep (U.x [(b,.cells (xm l++rest) tI)]) S3 [.slice (some ⟨b,0,none⟩) len cap] l:=by
 subst hl
 have a:∀x∈l.map dc,x.length=1:=fun x hx=>by obtain⟨y,_,rfl⟩:=List.mem_map.mp hx;rfl
 refine⟨_,_,l.map dc,rfl,.inr (.block b 0 cap _ (by rw[bI]) (aV.mpr rfl) (by rw[bI];exact hc) fun k hk=>?_),bI _,fun k x h=>?_⟩
 ·have h1:=zax (r:=rest) a hk
  rw[←ints_flat]at h1
  exact h1
 ·obtain⟨hk,rfl⟩:=aM.mp h
  rw[YI (y:=0) hk,aC,aE hk]
  rfl
theorem rep_at{s:St}{U:Wd}(g:Knw s U){a:Option Addr}{n cap:Nat}{l:List Int}(hl:l.length=n)(h:Rep U S3 [.slice a n cap] l){i:Nat}(hi:i<n):∃b off c,a=some ⟨b,off,none⟩∧s.get b=some (.cells c tI)∧b<s.next∧zF c (off+(i:Int).toNat*1)=some (.int .i64 (l.getD i 0)):=by
 subst hl
 obtain⟨a',cap',L,he,j,hn,hx⟩:=h
 cases he
 obtain⟨b,off,c,e,h1,h2,d⟩:=(g.s _ _ _ _ j).at (i:=(i:Int)) rfl (by rw[hn];exact hi)
 refine⟨b,off,c,e,h1,h2,?_⟩
 have f:L.getD i []=[.int .i64 (l.getD i 0)]:=by
  rw[aC (l:=l),aE hi]
  exact hx i l[i] (aE hi)
 rw[Int.toNat_natCast,f]at d
 exact part0 d
theorem zgN{P:Program}{F:FF}{s:St}{Post:Value→St→Prop}{t t2 a:Nat}{v w x:Value}(h1:F t=v)(h2:F t2=w)(b:F a=x)(h:Post (.tuple ⟨[v,w,x]⟩) s):endQ P [.tmp t,.tmp t2,.tmp a] Post F s:=by
 constructor
 simp only[qS,h1,h2,b]
 exact h
theorem len8{α:Type}:∀{l:List α} (_:l.length=8),∃a b c d e f g h,l=[a,b,c,d,e,f,g,h]
 | [a,b,c,d,e,f,g,h],_=>⟨a,b,c,d,e,f,g,h,rfl⟩
 | [],h | [_],h | [_,_],h | [_,_,_],h | [_,_,_,_],h | [_,_,_,_,_],h | [_,_,_,_,_,_],h | [_,_,_,_,_,_,_],h=>by cases h
 |_::_::_::_::_::_::_::_::_::_,h=>by simp only[aW]at h;omega
theorem get1{α:Type}{a x:α}:∀{k:Nat},[a][k]? = some x→k=0∧x=a
 |0,h=>⟨rfl,(cR h).symm⟩
 |_+1,h=>by cases h
theorem frst_nil{l:List Fq}:Frst l [] (List.replicate 12 E0):=⟨by simp,fun v hv=>by
 have e:(List.replicate 12 E0).getD v E0=E0:=by rw[aC,List.getElem?_replicate];split<;>rfl
 rw[e]
 exact .nil⟩
theorem jH:∀{es:List (Hp'×Value)} {v:Nat} (_:v<es.length),(es.getD v E0).1⊆xC es
 | [],_,h=>by simp at h
 |e::es,0,_=>fun p hp=>by simp only[xC,List.map_cons,cU];exact cE _ hp
 |e::es,v+1,h=>fun p hp=>by
  simp only[xC,List.map_cons,cU]
  exact bE _ (jH (es:=es) (v:=v) (by simpa using h) hp)
theorem Frst.sld{l:List Fq}{tr:List Nat}{es:List (Hp'×Value)}(h:Frst l tr es){W:List Nat}{s0 s:St}{L:Hp'}{n:Nat}(H:HL W s0 s L n)(hs:xC es⊆L){v:Int}(h0:0≤v)(h1:v<12):SlD s (es.getD v.toNat E0).2 (nts (adj (eds l) tr v)):=by
 have h2:=(Own.slIn (h.own v.toNat Oz)).2.sl H fun p hp=>hs (jH (by rw[h.len];omega) hp)
 rwa[Int.toNat_of_nonneg h0]at h2
theorem Frst.get{l:List Fq}{tr:List Nat}{es:List (Hp'×Value)}(h:Frst l tr es){vl:Value}{v:Int}(h0:0≤v)(h1:v<12):zF (wc vl es) (1+v.toNat)=some (es.getD v.toNat E0).2:=by
 have:=ZV (vl:=vl) (es:=es) h0 (by rw[h.len];omega)
 rwa[show 0+1+v.toNat*1=1+v.toNat by omega]at this
theorem Wy.whole{D:Hp'}{v:Value}{r:List Nat}{k:Nat}(h:Wy D v (r++[k])):∃b cap rest,D=[(b,.cells (xm (nts (r++[k]))++rest) tI)]∧v=.slice (some ⟨b,0,none⟩) (nts (r++[k])).length cap∧(nts (r++[k])).length≤cap / 2:=by
 generalize a:r++[k]=q at h
 cases h with
 |nil=>simp at a
 |block b cap len rest q hl hc=>
  subst a hl
  exact⟨b,cap,rest,rfl,by rw[wU],by rw[wU];omega⟩
section
variable{W:List Nat}{s0 s:St}{n:Nat}{p q0 q1:Nat×MObj}{A Φ:Hp'}
theorem turn_done(H:HL W s0 s (p::q0::q1::(A++Φ)) n):HL W s0 s (q1::(A++([p]++Φ))) n:=
 (HL.mid (A:=[p]) (B:=[q1]) (C:=A++Φ) H.drop1).perm (List.Perm.cons _ (dH [p] A Φ))
end
set_option maxHeartbeats 4000000 in
set_option maxRecDepth 10000 in
theorem turnsP_ok:qA 11 3400000000000 [.int .i64,S40] (.tup3 S36 S3 (.int .i64)) fun x=>z11 x.1 x.2:=by
 rintro I Q s hf U V vs ⟨n,(l:List Fq)⟩ ⟨_,_,rfl,rfl,_,rfl,hV⟩ r hz hroom
 replace hz:z11 n l=some r:=hz
 replace hV:Rep U S40 _ l:=hV
 obtain⟨⟨h0n,hp⟩,rfl⟩:=z11_some hz
 clear hz
 obtain⟨al,cap,L,hve,hS,Y,hLx⟩:=hV
 cases hve
 have hl:=V.s _ _ _ _ hS
 have hF:FitsC U L l:=⟨Y,fun k hk=>fitC (hLx k _ (by rw[aE hk,aC,aE hk];rfl))⟩
 have hV:Rep U S40 [.slice al l.length cap] l:=⟨al,cap,L,rfl,hS,Y,hLx⟩
 clear hS hLx Y
 obtain⟨h4,h6,hRi,K,hTn⟩:=hp
 obtain⟨nn,rfl⟩:∃m:Nat,n=(m:Int):=⟨n.toNat,(Int.toNat_of_nonneg h0n).symm⟩
 rw[Int.toNat_natCast]at h4 hRi K ⊢
 have hE:∀k,k<l.length→0≤(eds l k).1∧(eds l k).1<(eds l k).2∧(eds l k).2<12:=fun k hk=>by have h:0≤(eds l k).1∧(eds l k).1<(eds l k).2∧(eds l k).2<(nn:Int):=K _ (jF hk);omega
 have hE4:∀k,k<l.length→0≤(eds l k).1∧(eds l k).1<(eds l k).2∧(eds l k).2<(nn:Int):=fun k hk=>K _ (jF hk)
 have hT:∀k,k<l.length→Tn 25 (trn l k):=fun k hk=>hTn _ (jF hk)
 have hRo:RootsOf (eds l) nn (yG (eds l) l.length) (xN nn l):=u7 hE4
 rw[Nat.add_comm]at hroom
 have H:=hf.hl
 refine qD 2 (Q 11) Tryz.func11 rfl fb11 rfl ?_
 refine zg (zO (zO (zO (zb (zL (yj (zg (zf rfl (J6 rfl rfl (fun h=>absurd h Oz) (fun h=>?_))))))))))
 refine xA rfl (zx rfl (qX un24 rfl rfl rfl (J6 rfl rfl (fun h=>absurd h Oz) (fun h=>?_))))
 refine wo rfl rfl (xl rfl (zb (ye rfl (zg (zf rfl (kA rfl rfl (fun h=>absurd h Oz) (fun h=>?_)))))))
 refine xA rfl (zf rfl (zx rfl (ym rfl fc44 rfl (jK (d44 Q H.fine (V.x H (D:=[]) V1) (x:=((nn:Int),l)) ⟨_,_,rfl,rfl,_,rfl,hV.mono xP⟩ hRi (H.rm Oz)) (fun v9 P z Hc hv9=>?_)))))
 obtain rfl:v9=_:=hv9
 have H:=H.callE Hc
 have H:=H.sub (List.nil_sublist _)
 clear Hc
 refine KM rfl (wo rfl rfl (xl rfl (zb (ye rfl (yo (xc (zn (zg (zx rfl (KN (c:=[.slice _ _ _,.slice _ _ _,.slice _ _ _,.slice _ _ _,.slice _ _ _,.slice _ _ _,.slice _ _ _,.slice _ _ _,.slice _ _ _,.slice _ _ _,.slice _ _ _,.slice _ _ _,.slice _ _ _]) bf94 rfl (QH H rfl Oz (fun f s1 H=>?_))))))))))))
 refine zeo rfl (zb (zL ?_))
 have H:HL [] s _ ((f,.cells (wc (.slice al l.length cap) (List.replicate 12 E0)) 94)::(xC (List.replicate 12 E0)++[])) _:=H
 refine zg (zx rfl (qX un24 rfl rfl rfl (wB (zb (yj (kP (fun k F s1=>∃(G:FF) (i m:Nat) (es:List (Hp'×Value)),F=lay G [(0,.int .i64 (nn:Int)),(1,.slice al l.length cap),(7,.pointer (some ⟨f,0,none⟩)),(39,.slice al l.length cap),(40,.int .i64 (l.length:Int)),(41,.int .i64 (i:Int))]∧HL [] s s1 ((f,.cells (wc (.slice al l.length cap) es) 94)::(xC es++[])) m∧m≤5200000+i*43300000000∧i≤l.length∧k=l.length-i∧first (eds l) (trn l) i=none∧Frst l (yG (eds l) i) es) ?_ l.length _ _ ?_))))))
 rotate_left
 ·exact⟨_,0,_,_,slots ⟨rfl,rfl,rfl,rfl,rfl,rfl,trivial⟩,H,by omega,by omega,by omega,rfl,frst_nil⟩
 rintro k F s1 ⟨G,i,m,es,rfl,H,hm,hi,rfl,M,u⟩
 refine zg (kA rfl rfl (fun h=>?_) (fun h=>?_))
 ·refine zb (zL (yN rfl (yo (zn (zL (yj ?_))))))
  have y:i<l.length:=by omega
  have hq:=hF.fit i y
  obtain⟨b1,off1,c1_,he1,hg1,hb1,hc9⟩:=zeM hl hF y
  obtain⟨e0,e3,e4⟩:=hE i y
  have e1:(eds l i).1=(l.getD i default).1:=rfl
  have e2:(eds l i).2=(l.getD i default).2.1:=rfl
  rw[e1]at e0 e3
  rw[e2]at e3 e4
  obtain⟨t1,hct,hX1⟩:=hq.t
  refine zg (zf rfl (z7 el24 (by rw[←he1];rfl) rfl Oz Oz (qr sh40 rfl (H.old hb1 hg1) hc9 (xW H zf40 Oz (fun b9 s2 H=>?_)))))
  refine z4 rfl (xu (vs:=L.getD i []) H sz40 rfl rfl (xq hq.len) hq.plain (yQ (by rw[hq.len];rfl)) Oz (fun P H=>?_))
  refine zb (zg (vW rfl (zy zab rfl (yc sh3 rfl H.own0 hq.a (zy KT rfl (yc sh3 rfl H.own0 hq.b (ym rfl fc45 rfl ?_)))))))
  obtain⟨_,P,J,Dw,vw,z,t8,rfl,Hc,o,d⟩:=zbn Q H.fine (V.x H (D:=[]) V1) (L:=L) (l:=l) hE hT (tr:=yG (eds l) i) (fun k hk=>bJ (qo _ k hk) Oz) (by have:=jt (e:=eds l) i;omega) (xk _) rfl (va:=fun v=>(es.getD v.toNat E0).2) (fun v h0 h1=>u.get h0 h1) (bt:=f) (H.own (f,_) Y8).1 (H.own (f,.cells (wc (.slice al l.length cap) es) 94) Y8).2.1 (fun v h0 h1=>u.sld H Z8 h0 h1) (hl.kept H) (hF.mono xP) (v:=(l.getD i default).1) (w:=(l.getD i default).2.1) Oz Oz Z4
  refine⟨_,_,J,?_⟩
  clear J
  have H:=H.callE Hc
  simp only[bV,bD,cI]at H
  clear Hc
  replace d:=Rep.mono (τ:=T36) (uT (A:=[]) (D:=z) (D':=z) V1 (fun _ h=>h)) d
  have q:t8.length=8:=Rep.len (τ:=T36) d
  have O:=Rep.plain (τ:=T36) d
  obtain⟨aw,cw,rfl⟩:=o.isSlice
  rcases N:way (eds l) (yG (eds l) i) (l.getD i default).1 (l.getD i default).2.1 with _|S
  ·rw[N]at d o
   simp only[Option.getD_none,bL]at o
   refine vV rfl (yB rfl rfl (yB rfl rfl (yB rfl rfl (xW H zbe Oz (fun b11 s3 H=>?_)))))
   refine yq rfl (xu (vs:=t8) H ZE rfl rfl (xq q) O (yQ (by rw[q];rfl)) Oz (fun s4 H=>?_))
   refine xl rfl (zb (zL (zg (xA rfl (KM rfl (zb (yN rfl (zg (vW rfl (zf rfl (ym rfl fc46 rfl ?_)))))))))))
   obtain⟨_,P,J,es2,rfl,H,hfr2⟩:=add46_ok Q (R:=Dw++z) (es:=es) (k:=i) H.drop0.drop0 hl hF hE y Oz u (fun v=>by have:=zhi (e:=eds l) (tr:=yG (eds l) i) (v:=(v:Int));have:=jt (e:=eds l) i;rw[wU];omega) Oz
   refine⟨_,_,J,?_⟩
   clear J
   refine zb (qw (xG (xI (zn (zQ (xX rfl rfl (by unfold yy;omega) (zf rfl (zb (yA (⟨l.length-(i+1),by omega,_,i+1,_,es2,slots ⟨rfl,rfl,rfl,rfl,rfl,rfl,trivial⟩,(by rw[bM];exact H.sub (.cons_cons _ (List.sublist_append_left _ _))),by omega,by omega,rfl,?_,?_⟩))))))))))
   ·rw[ZR M,zfk N]
    rfl
   ·rw[yG,show way (eds l) (yG (eds l) i) (eds l i).1 (eds l i).2=none from N]
    simp only[Option.isSome_none,aX,cK]
    exact frst_step Oz Oz hfr2
  rw[N]at d o
  simp only[Option.getD_none,bL]at o
  refine vV rfl (yB rfl rfl (yB rfl rfl (yB rfl rfl (xW H zbe Oz (fun b11 s5 H=>?_)))))
  refine yq rfl (xu (vs:=t8) H ZE rfl rfl (xq q) O (yQ (by rw[q];rfl)) Oz (fun s6 H=>?_))
  refine xl rfl (zb (zL (zg (xA rfl (KM rfl (zb (ye rfl (yo (zn (zg (qr uJ rfl H.own0 (xM q) ?_)))))))))))
  refine zy zeq rfl (qr uJ rfl H.own1 hct ?_)
  have hrl7:=zgQ N
  have htl9:=trees_le (e:=eds l) (show i≤l.length by omega)
  have htl8:=jt (e:=eds l) i
  have hnd:=wm (xk i) N
  have hal:Tn (25 ^ 6) (xJ (eds l) (trn l) S (eds l i).1 zX):=(zds (a:=0) S (fun k hk=>hT k (Nat.lt_trans (qo i k (hnd.2 k hk)) y)) (eds l i).1 tn_still).le (by have:=Nat.pow_le_pow_right (n:=25) Uz (show 0+S.length≤6 by omega);exact this)
  refine ym rfl fc47 rfl (jK (d47 Q H.fine (V.x H (D:=z) Z8) (x:=(xJ (eds l) (trn l) S (eds l i).1 zX,trn l i)) ⟨_,_,rfl,⟨_,rfl,d⟩,_,rfl,_,rfl,Rep.mono (τ:=T36) xP hX1⟩ (same_tn hal ((hT i y).le Uz)) (H.rm Oz)) (fun v9 P D10 Hc hv9=>?_))
  obtain rfl:v9=_:=hv9
  have H:=H.callE Hc
  have H:=H.sub (List.sublist_append_left _ _)
  clear Hc
  by_cases hb2:xJ (eds l) (trn l) S (eds l i).1 zX=trn l i
  rotate_left
  ·rw[bA hb2]at *
   refine KM rfl (zb (yN rfl (zg (zx rfl (zf rfl (xS (c:=[.int _ _]) H uW rfl rfl Oz (fun b68 s7 H=>?_)))))))
   have hgt:=H.own0
   have H:=HL.mid2 (A:=[_,_,_]) (B:=xC es) (C:=Dw) (E:=z) H.drop0
   refine Xk H o uW Y6 rfl rfl rfl (qG hgt rfl) Oz Oz (fun DX v9 P o H=>?_)
   obtain⟨bq,cq,rq,rfl,rfl,hcq⟩:=o.whole
   refine yq rfl (zb (zg (zx rfl (ym rfl fc48 rfl ?_))))
   obtain⟨_,P,J,L,rfl,H,Z,hLs⟩:=sort_ok Q H (by rw[wU,aQ,List.length_singleton];omega) Oz
   refine⟨_,_,J,?_⟩
   clear J
   refine zb (zg (zx rfl (zO (yq rfl (zO (zb (qH (vf (qp (gg (vf ?_)))))))))))
   refine qp (xD (zgN rfl rfl rfl ?_))
   rw[jT (zeN (by rw[ZR M,zfj N hb2];rfl) (show i+1≤l.length by omega))]
   have hfo:(nts S).foldl Qw [(i:Int)]=L:=zeL hnd.1 (fun j hj=>qo i j (hnd.2 j hj)) hLs Z
   rw[hfo]
   exact⟨[(bq,_)]++_,H.up Oz,_,_,_,rfl,⟨none,0,[],rfl,.inr (.nil 0 rfl rfl),rfl,fun k x h=>nomatch h⟩,(rep_ints Z.length_eq.symm (by rw[Z.length_eq];exact hcq)).mono (vF (List.subset_append_left _ _)),rfl⟩
  rw[aH hb2]at *
  refine KM rfl (zb (ye rfl (yo (xc (zn (zQ (xX rfl rfl (by unfold yy;omega) (zf rfl (zb (yA (⟨l.length-(i+1),by omega,_,i+1,_,es,slots ⟨rfl,rfl,rfl,rfl,rfl,rfl,trivial⟩,(by rw[bM];exact H.drop0.drop0.sub (.cons_cons _ (List.sublist_append_left _ _))),by omega,by omega,rfl,?_,?_⟩)))))))))))
  ·rw[ZR M,clash_ok N hb2]
   rfl
  ·rw[yG,show way (eds l) (yG (eds l) i) (eds l i).1 (eds l i).2=some S from N]
   exact u
 refine zb (zL (ye rfl (qw (xG (xv (xI (zn (zg (zO (zb (zL ?_)))))))))))
 have hfi9:first (eds l) (trn l) l.length=none:=by rw[show l.length=i by omega];exact M
 rw[show i=l.length by omega]at u
 refine zg (zf rfl (zx rfl (ym rfl fc17 rfl (jK (d17 Q H.fine (V.x H (D:=[]) V1) (x:=((nn:Int),l)) ⟨_,_,rfl,rfl,_,rfl,hV.mono xP⟩ (show z17 (nn:Int) l=some (xN nn l)from WL K h4 h6 hRi) (H.rm Oz)) (fun vp P D8 Hc g=>?_)))))
 have H:=H.callE Hc
 simp only[bV,bD,cI]at H
 clear Hc
 replace g:Rep (U.x D8) S3 [vp] (xN nn l):=Rep.mono (τ:=S3) (uT (A:=[]) (D:=D8) (D':=D8) V1 (fun _ h=>h)) g
 obtain⟨ap,cp,Lp,hpe,hpS,hpl,hpx⟩:=g
 cases hpe
 have g:Rep (U.x D8) S3 [.slice ap (xN nn l).length cp] (xN nn l):=⟨_,_,Lp,rfl,hpS,hpl,hpx⟩
 clear hpS hpl hpx
 have hlp:=hRo.len
 refine qX Y6 rfl rfl rfl (wB (zb (yj (kP (fun k F s1=>∃(G:FF) (i m:Nat) (a0:Option Addr) (n0 c0:Nat) (Dt Φ:Hp') (ap:Option Addr),F=lay G [(7,.pointer (some ⟨f,0,none⟩)),(13,.slice a0 n0 c0),(76,.slice ap nn cp),(77,.int .i64 (nn:Int)),(78,.int .i64 (i:Int))]∧HL [] s s1 ((f,.cells (wc (.slice al l.length cap) es) 94)::(xC es++(Dt++Φ))) m∧m≤2800000000000+i*43300000000∧i≤nn∧k=nn-i∧OwnL (U.x Φ) 36 8 T36 Dt a0 n0 c0 ((List.range i).map (xi nn l))∧Rep (U.x Φ) S3 [.slice ap nn cp] (xN nn l)) ?_ nn _ _ ?_))))
 rotate_left
 ·rw[hlp]at g ⊢
  exact⟨_,0,_,_,_,_,[],_,_,slots ⟨rfl,rfl,rfl,rfl,rfl,trivial⟩,H,by omega,by omega,by omega,.nil rfl,g⟩
 rintro k F s1 ⟨G,i,m,a0,n0,c0,Dt,Φ,ap,rfl,H,hm,hi,rfl,ho,g⟩
 refine zg (kA rfl rfl (fun h=>?_) (fun h=>?_))
 ·refine zb (zL (yN rfl (yo (zn (zL (yj ?_))))))
  have hin:i<nn:=by omega
  obtain⟨hr0,hr1⟩:=hRo.le i hin
  obtain⟨S,hw9⟩:=Option.isSome_iff_exists.mp (zbH (xk _) hRo hin)
  obtain⟨b5,off5,c5_,he5,hg5,hb5,hc5⟩:=rep_at (V.x H (D:=Φ) Z8) hlp g hin
  subst he5
  refine zg (zf rfl (z7 zcO rfl rfl Oz Oz (yc sh3 rfl hg5 hc5 (z4 rfl (z4 rfl (zb (zg (vW rfl (zf rfl (zf rfl (ym rfl fc45 rfl ?_)))))))))))
  obtain⟨_,P,J,Dw,vw,z,t8,rfl,Hc,o,d⟩:=zbn Q H.fine (V.x H (D:=[]) V1) (L:=L) (l:=l) hE hT (tr:=(yG (eds l) l.length)) (fun k hk=>bJ (qo _ k hk) Oz) (by have:=jt (e:=eds l) l.length;omega) (xk _) rfl (va:=fun v=>(es.getD v.toNat E0).2) (fun v h0 h1=>u.get h0 h1) (bt:=f) (H.own (f,_) Y8).1 (H.own (f,.cells (wc (.slice al l.length cap) es) 94) Y8).2.1 (fun v h0 h1=>u.sld H Z8 h0 h1) (hl.kept H) (hF.mono xP) (v:=(xN nn l).getD i 0) (w:=(i:Int)) Oz Oz Z4
  refine⟨_,_,J,?_⟩
  clear J
  have H:=H.callE Hc
  simp only[bV,bD,cI]at H
  clear Hc
  replace d:=Rep.mono (τ:=T36) (uT (A:=[]) (D:=z) (D':=z) V1 (fun _ h=>h)) d
  have q:t8.length=8:=Rep.len (τ:=T36) d
  have O:=Rep.plain (τ:=T36) d
  obtain⟨aw,cw,rfl⟩:=o.isSlice
  rw[hw9]at d o
  have ku:WLe (U.x Φ) (U.x (Φ++(Dw++z))):=vF (List.subset_append_left _ _)
  replace g:=Rep.mono (τ:=S3) ku g
  replace ho:=ho.mono ku
  replace d:=Rep.mono (τ:=T36) (vF (D':=Φ++(Dw++z)) (fun _ h=>bE _ (bE _ h))) d
  clear ku
  generalize Φ++(Dw++z)=Φ at *
  refine vV rfl (yB rfl rfl (yB rfl rfl (yB rfl rfl (xW H zbe Oz (fun b17 s8 H=>?_)))))
  refine yq rfl (xu (vs:=t8) H ZE rfl rfl (xq q) O (yQ (by rw[q];rfl)) Oz (fun P H=>?_))
  refine xl rfl (zb (zQ (yJ (qr uJ rfl H.own0 (xM q) ?_))))
  obtain⟨w1,w2,w3,w4,w5,w6,w7,w8,rfl⟩:=len8 q
  refine xS (c:=[w1,w2,w3,w4,w5,w6,w7,w8]) H sl42 rfl rfl Oz (fun b93 s10 H=>?_)
  have hgt:=H.own0
  have H:=HL.mid2 (A:=[_,_]) (B:=xC es) (C:=Dt) (E:=Φ) H.drop0
  refine Za (X:=[[w1,w2,w3,w4,w5,w6,w7,w8]]) H ho (show app ((List.range i).map (xi nn l)) [xi nn l i]=some ((List.range (i+1)).map (xi nn l))by rw[yF (by simp;omega),List.range_succ,List.map_append];rfl) sl42 un42 rfl rfl rfl (qG hgt rfl) rfl Uz rfl (fun k x h=>by obtain⟨rfl,rfl⟩:=get1 h;unfold xi;rw[hw9];exact d) Uz Oz (fun a5 cap5 b38_ c5 s38 H ho=>?_)
  simp only[bV,cI]at H
  refine yq rfl (zb (xc (zn (zQ (xX rfl rfl (by unfold yy;omega) (zf rfl (zb (yA (⟨nn-(i+1),by omega,_,i+1,_,_,_,_,[_],Φ,_,slots ⟨rfl,rfl,rfl,rfl,rfl,trivial⟩,turn_done H,by omega,by omega,rfl,ho,g⟩)))))))))
 refine zb (zL (ye rfl (qw (xG (xv (xI (zn (zg (yJ (qn (zO ?_)))))))))))
 refine zO (zb (qH (xD (zgN rfl rfl rfl ?_))))
 rw[gQ hfi9]
 rw[show i=nn by omega]at ho
 exact⟨xC es++(Dt++Φ),H.drop0.up Oz,_,_,_,rfl,ho.rep (dJ _ _ |>.trans (dJ _ _)) ((List.subset_append_left _ _).trans (dJ _ _)),⟨none,0,[],rfl,.inr (.nil 0 rfl rfl),rfl,fun k x h=>nomatch h⟩,rfl⟩
def Γ2:TypeId→Option Ty:=fun t=>find [(77,T77),(69,S77),(38,T38),(34,.rat),(72,T72),(4,.bool),(3,(.int .i64)),(36,T36),(40,T40),(27,T27),(54,T54),(87,T87),(214,T214),(126,T126),(162,T162),(164,Qy),(166,uC),(139,S38),(290,T290),(271,T271),(185,Wn),(229,zdC),(226,jN)] t
noncomputable def z205(a0:List Int)(b:List Int):Option Int:=(zj (fun g1 (a:Int)=>(if (decide (a<(a0.length:Int)))=true then((idx a0 a).bind fun x2=>(if (decide ((b.length:Int)≤a))=true then some 1 else((idx b a).bind fun e=>((zdL x2 e).bind fun c=>(if (decide (c≠0))=true then some c else((i64 (a+1)).bind fun d=>g1 d))))))else(if (decide ((a0.length:Int)<(b.length:Int)))=true then some (-1)else some 0))) (zi 64) 0)
noncomputable def T205c:=zm T211c 205 ⟨[S3,S3],(.int .i64),67,fun x=>z205 x.1 x.2⟩
theorem t205:ConOK T205c:=ConOK.next (Γ:=Γ2) (Hs:=hsF [(205,[{frz:=[],cst:=[0,1,9,10],vars:=[(11,false,[.hole])],objs:=[],own:=[],ts:=[(.int .i64)],fuel:=64}])]) (rs:=[67]) t211 rfl fun x=>by kernel_rfl
noncomputable def zFst(a0:List (Int×Int×Rat))(d:List (List (Bool×Rat)))(e f:Int)(g:Rat):Option Int:=(zj (fun g1 (a:Int)=>(if (decide (a<(a0.length:Int)))=true then((idx a0 a).bind fun x2=>((idx d e).bind fun m=>((idx m x2.2.1).bind fun c=>(if (decide (x2.1=f))=true then(if c.1=true then((qJ x2.2.2 c.2).bind fun j=>((qJ g j).bind fun k=>((qP k).bind fun l=>(if (decide (l<0))=true then some a else((i64 (a+1)).bind fun h=>g1 h)))))else((i64 (a+1)).bind fun i=>g1 i))else((i64 (a+1)).bind fun b=>g1 b)))))else some (-1))) (zi 64) 0)
def hFst:FuncId→List Hi:=hsF [(246,[{frz:=[],cst:=[0,1,7],vars:=[(8,false,[.hole])],objs:=[],own:=[],ts:=[(.int .i64)],fuel:=64}])]
theorem fst_eq(a0:List (Int×Int×Rat))(a:List (List (Bool×Rat)))(b c:Int)(d:Rat):zcI Γ2 T205c hFst [51585,806,4] 246 [] 5 [.one (.sl 164 6 Qy a0),.clo 253 [.ptr 0 0,.ptr 1 0,.ptr 2 0,.ptr 3 0,.ptr 4 0]] [.cells [.sl 226 1 jN a],.cells [.int .i64 b],.cells [.int .i64 c],.cells [.fn 213],.cells [.rat d]] (fun p _=>KA (.int .i64) p)=zFst a0 a b c d:=by kernel_rfl
end Go.Proofs.YtocnbjjmmgolfaaGreat
