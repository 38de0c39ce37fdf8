/- Plain law: the plane over whole numbers. -/
import Derived.Test.YtocnbjjmmgolfaaGreatA22
import Derived.Test.YtocnbjjmmgolfaaGreatA23
set_option linter.unusedSimpArgs false
set_option linter.unusedVariables false
set_option linter.unusedSectionVars false
namespace Go.Proofs.YtocnbjjmmgolfaaGreat
open Go Go.M Go.Proofs.C14
abbrev c7(n:Int):Prop:=n.natAbs<500000000
theorem Xm{n:Int}(h:c7 n):Sm (n:Rat):=⟨by show(n:Rat).num.natAbs<_;rw[Rat.num_intCast];exact h,by show(n:Rat).den<_;rw[Rat.den_intCast];omega⟩
def qI(n:Int):Rat:=(n:Rat)
theorem jF{n:Int}(h:c7 n):Sm (qI n):=Xm h
theorem Cu{m n:Int}(hm:c7 m)(hn:c7 n):qF (qI m) (qI n)=some (qI (m+n)):=by rw[yE (jF hm) (jF hn)];unfold qI;push_cast;rfl
theorem mz{m n:Int}(hm:c7 m)(hn:c7 n):wW (qI m) (qI n)=some (qI (m-n)):=by rw[vA (jF hm) (jF hn)];unfold qI;push_cast;rfl
theorem Ct{m n:Int}(hm:c7 m)(hn:c7 n):qG (qI m) (qI n)=some (qI (m*n)):=by rw[xK (jF hm) (jF hn)];unfold qI;push_cast;rfl
theorem Ol{m:Int}(hm:c7 m):jL (qI m)=some (qI (-m)):=by rw[kJ (jF hm)];unfold qI;push_cast;rfl
theorem rW{m:Int}(hm:c7 m):qA (qI m)=some (yz m 0):=by rw[Yy (jF hm)];unfold qI;rw[Rat.num_intCast]
theorem J1{m:Int}(hm:c7 m):qu (qI m)=some true:=gM (jF hm)
theorem nW(m n:Int):kV (qI m) (qI n)=yz m n:=by unfold qI;rw[<-zbh,Rat.num_intCast,Rat.num_intCast,Rat.den_intCast,Rat.den_intCast];simp
theorem Sz{m n:Int}(hm:c7 m)(hn:c7 n):yu (qI m) (qI n)=some (yz m n):=by rw[yW (jF hm) (jF hn),nW]
theorem l8{n:Int}(h:n.natAbs<1000000000):dh n 1=some (qI n):=by
 unfold dh qI
 rw[aG ⟨h,by decide,by decide⟩,Rat.divInt_eq_div]
 congr 1
 rw[show((1:Int):Rat)=1 from rfl,Rat.div_def]
 grind
theorem q0:(0:Rat)=qI 0:=rfl
def ah(p:Int×Int):Rat×Rat:=(qI p.1,qI p.2)
theorem fV{p:Int×Int}:(ah p).1=qI p.1:=rfl
theorem fQ{p:Int×Int}:(ah p).2=qI p.2:=rfl
def Nr(N:Nat)(p:Int×Int):Prop:=p.1.natAbs<=N/\p.2.natAbs<=N
def zL(a b:Int×Int):Int×Int:=(a.1-b.1,a.2-b.2)
def zJ(a b:Int×Int):Int:=a.1*b.2-a.2*b.1
def zX(a b:Int×Int):Int:=a.1*b.1+a.2*b.2
def zf(a b c:Int×Int):Int:=zJ (zL b a) (zL c a)
theorem Nr.sub{N M:Nat}{a b:Int×Int}(h:Nr N a)(g:Nr M b):Nr (N+M) (zL a b):=by
 unfold Nr zL at *
 simp only
 omega
theorem vn{N M:Nat}{m n:Int}(h:m.natAbs<=N)(g:n.natAbs<=M):(m*n).natAbs<=N*M:=by rw[dW];exact eE h g
theorem Nr.cross{N M:Nat}{a b:Int×Int}(h:Nr N a)(g:Nr M b):(zJ a b).natAbs<=2*(N*M):=by
 have h1:=vn h.1 g.2
 have h2:=vn h.2 g.1
 unfold zJ
 omega
theorem Nr.dot{N M:Nat}{a b:Int×Int}(h:Nr N a)(g:Nr M b):(zX a b).natAbs<=2*(N*M):=by
 have h1:=vn h.1 g.1
 have h2:=vn h.2 g.2
 unfold zX
 omega
theorem Nr.le{N M:Nat}{a:Int×Int}(h:Nr N a)(g:N<=M):Nr M a:=⟨bK h.1 g,bK h.2 g⟩
theorem Nr.s1{a:Int×Int}(h:Nr 10000 a):c7 a.1:=by have:=h.1;unfold c7;omega
theorem Nr.s2{a:Int×Int}(h:Nr 10000 a):c7 a.2:=by have:=h.2;unfold c7;omega
section
variable{a b c d:Int×Int}
theorem Ye(ha:Nr 10000 a)(hb:Nr 10000 b):iA (ah a) (ah b)=some (ah (zL a b)):=by
 unfold iA
 simp only[fV,fQ,mz ha.s1 hb.s1,mz ha.s2 hb.s2,aA]
 rfl
theorem Yn(ha:Nr 10000 a)(hb:Nr 10000 b):ZA (ah a) (ah b)=some (ah (zL a b)):=by
 unfold ZA
 simp only[fV,fQ,mz ha.s1 hb.s1,mz ha.s2 hb.s2,aA]
 rfl
theorem th(ha:Nr 10000 a)(hb:Nr 10000 b):Cb (ah a) (ah b)=some (qI (zJ a b)):=by
 unfold Cb
 have h1:=vn ha.1 hb.2
 have h2:=vn ha.2 hb.1
 simp only[fV,fQ,Ct ha.s1 hb.s2,Ct ha.s2 hb.s1,aA]
 rw[mz (by unfold c7;omega) (by unfold c7;omega)]
 rfl
theorem Yg(ha:Nr 10000 a)(hb:Nr 10000 b):IP (ah a) (ah b)=some (qI (zX a b)):=by
 unfold IP
 have h1:=vn ha.1 hb.1
 have h2:=vn ha.2 hb.2
 simp only[fV,fQ,Ct ha.s1 hb.s1,Ct ha.s2 hb.s2,aA]
 rw[Cu (by unfold c7;omega) (by unfold c7;omega)]
 rfl
theorem Ym(ha:Nr 1000 a)(hb:Nr 1000 b)(hc:Nr 1000 c):sQ (ah a) (ah b) (ah c)=some (yz (zf a b c) 0):=by
 unfold sQ
 have h1:=(hb.sub ha)
 have h2:=(hc.sub ha)
 have h3:=h1.cross h2
 rw[Ye (hb.le Uz) (ha.le Uz),aA,Ye (hc.le Uz) (ha.le Uz),aA,th (h1.le Uz) (h2.le Uz),aA,rW (by unfold c7;omega),aA]
 rfl
end
attribute [local irreducible] zk
theorem zP:(i64 0=some 0/\i64 1=some 1/\i64 2=some 2/\i64 3=some 3/\i64 4=some 4)/\i64 5=some 5/\i64 6=some 6/\i64 7=some 7/\i64 8=some 8:=by
 refine⟨⟨?_,?_,?_,?_,?_⟩,?_,?_,?_,?_⟩<;>exact xd Uz
theorem kH{n:Int}:yz n 0=0↔n=0:=by unfold yz;split<;>(try split)<;>omega
theorem kG{m n:Int}:yz m n<0↔m<n:=by unfold yz;split<;>(try split)<;>omega
theorem VO{m n:Int}:0<yz m n↔n<m:=by unfold yz;split<;>(try split)<;>omega
theorem dC{m n:Int}:yz m n<=0↔m<=n:=by unfold yz;split<;>(try split)<;>omega
theorem uD(m n:Int):yz m n = -1/\m<n\/yz m n=0/\m=n\/yz m n=1/\n<m:=by unfold yz;split<;>(try split)<;>omega
section
variable{a b c d:Int×Int}
theorem zbI{m n:Int}(hm:m.natAbs<100000000)(hn:n.natAbs<100000000):Qw [qI m,qI n]=some (qI (m+n)):=by
 unfold Qw
 have h0:qF (qI 0) (qI m)=some (qI m):=by
  have:=Cu (m:=0) (n:=m) Uz (by unfold c7;omega)
  rw[Int.zero_add]at this
  exact this
 have h1:=Cu (m:=m) (n:=n) (by unfold c7;omega) (by unfold c7;omega)
 rw[zF,ze,q0]
 simp[ae,zP,h0]
 rw[ze]
 simp[zP,h1]
 rw[ze]
 simp
theorem jz(ha:Nr 5000 a)(hb:Nr 5000 b):mU (ah a) (ah b)=some (qI (zJ a b)):=by
 unfold mU
 have h1:=vn ha.1 hb.2
 have h2:=vn ha.2 hb.1
 have e:=ha.le (M:=10000) Uz
 have f:=hb.le (M:=10000) Uz
 simp only[fV,fQ,Ct e.s1 f.s2,Ct e.s2 f.s1,aA]
 rw[Ol (by unfold c7;omega),aA,zbI Oz Oz]
 rfl
theorem Yh(ha:Nr 5000 a)(hb:Nr 5000 b):Qu (ah a) (ah b)=some (qI (zX a b)):=by
 unfold Qu
 have h1:=vn ha.1 hb.1
 have h2:=vn ha.2 hb.2
 have e:=ha.le (M:=10000) Uz
 have f:=hb.le (M:=10000) Uz
 simp only[fV,fQ,Ct e.s1 f.s1,Ct e.s2 f.s2,aA]
 rw[zbI Oz Oz]
 rfl
theorem yZ(ha:Nr 1000 a)(hb:Nr 1000 b)(hc:Nr 1000 c):jZ (ah a) (ah b) (ah c)=some (yz (zf a b c) 0):=by
 unfold jZ
 have h1:=(hb.sub ha)
 have h2:=(hc.sub ha)
 have h3:=h1.cross h2
 rw[Yn (hb.le Uz) (ha.le Uz),aA,Yn (hc.le Uz) (ha.le Uz),aA,jz (h1.le Uz) (h2.le Uz),aA,rW (by unfold c7;omega),aA]
 rfl
def im(a b p:Int×Int):Bool:=decide (zf a b p=0)&&decide (zX (zL a p) (zL b p)<=0)
theorem Yf(ha:Nr 1000 a)(hb:Nr 1000 b)(hc:Nr 1000 c):Q6 (ah a) (ah b) (ah c)=some (im a b c):=by
 unfold Q6 im
 have h1:=(ha.sub hc)
 have h2:=(hb.sub hc)
 have h3:=h1.dot h2
 rw[yZ ha hb hc,aA]
 by_cases h:zf a b c=0
 .rw[aG (by simp[kH,h]),Yn (ha.le Uz) (hc.le Uz),aA,Yn (hb.le Uz) (hc.le Uz),aA,Yh (h1.le Uz) (h2.le Uz),aA,rW (by unfold c7;omega),aA]
  simp[h,dC]
 .rw[aD (by simp[kH,h])]
  simp[h]
def vC(a b c d:Int×Int):Bool:=(decide (yz (zf a b c) 0*yz (zf a b d) 0<0)&&decide (yz (zf c d a) 0*yz (zf c d b) 0<0))||im a b c||im a b d||im c d a||im c d b
theorem Y2(m n:Int):(yz m n).natAbs<=1:=by rcases uD m n with h|h|h<;>rw[h.1]<;>decide
theorem Yj(ha:Nr 1000 a)(hb:Nr 1000 b)(hc:Nr 1000 c)(hd:Nr 1000 d):tj (ah a) (ah b) (ah c) (ah d)=some (vC a b c d):=by
 unfold tj vC
 have e1:=vn (Y2 (zf a b c) 0) (Y2 (zf a b d) 0)
 have e2:=vn (Y2 (zf c d a) 0) (Y2 (zf c d b) 0)
 simp only[yZ ha hb hc,yZ ha hb hd,yZ hc hd ha,yZ hc hd hb,Yf ha hb hc,Yf ha hb hd,Yf hc hd ha,Yf hc hd hb,aA]
 rw[xd Oz,xd Oz]
 simp only[aA]
 generalize yz (zf a b c) 0*yz (zf a b d) 0=u
 generalize yz (zf c d a) 0*yz (zf c d b) 0=v
 by_cases hu:u<0<;>by_cases hv:v<0<;>cases im a b c<;>cases im a b d<;>cases im c d a<;>simp[hu,hv]
def vN(n a b c d:Int×Int):Bool:=(decide (zX n a<zX n c)&&decide (zX n a<zX n d)&&decide (zX n b<zX n c)&&decide (zX n b<zX n d))||(decide (zX n c<zX n a)&&decide (zX n d<zX n a)&&decide (zX n c<zX n b)&&decide (zX n d<zX n b))
theorem uT{n:Int×Int}(hn:Nr 2000 n)(ha:Nr 1000 a)(hb:Nr 1000 b)(hc:Nr 1000 c)(hd:Nr 1000 d):Cc (ah n) (ah a) (ah b) (ah c) (ah d)=some (vN n a b c d):=by
 unfold Cc vN
 have ga:=hn.dot ha
 have gb:=hn.dot hb
 have gc:=hn.dot hc
 have gd:=hn.dot hd
 rw[Yg (hn.le Uz) (ha.le Uz),Yg (hn.le Uz) (hb.le Uz),Yg (hn.le Uz) (hc.le Uz),Yg (hn.le Uz) (hd.le Uz)]
 simp only[aA]
 generalize zX n a=p at *
 generalize zX n b=q at *
 generalize zX n c=r at *
 generalize zX n d=s at *
 have s1:c7 p:=by unfold c7;omega
 have s2:c7 q:=by unfold c7;omega
 have e:c7 r:=by unfold c7;omega
 have f:c7 s:=by unfold c7;omega
 simp only[Sz s1 e,Sz s1 f,Sz s2 e,Sz s2 f,aA,kG,VO]
 by_cases h1:p<r<;>by_cases h2:p<s<;>by_cases g:q<r<;>simp only[h1,h2,g,decide_true,dR,dQ,cK,aV,Bool.true_and,eW,Bool.and_true,Bool.and_false,Bool.false_or,Bool.true_or]<;>by_cases i:r<p<;>by_cases j:s<p<;>by_cases k:r<q<;>by_cases h:q<s<;>simp[h,i,j,k]
def yU(a:Int×Int):Int×Int:=(-a.2,a.1)
theorem zbz(ha:Nr 10000 a):ti (ah a)=some (ah (yU a)):=by
 unfold ti
 rw[fQ,Ol ha.s2]
 rfl
def kP(a b c d:Int×Int):Bool:= !(vN (yU (zL b a)) a b c d) && !(vN (yU (zL d c)) a b c d) && !(vN (zL b a) a b c d) && !(vN (zL d c) a b c d) && !(vN (zL c a) a b c d)
theorem Yl(ha:Nr 1000 a)(hb:Nr 1000 b)(hc:Nr 1000 c)(hd:Nr 1000 d):sR (ah a) (ah b) (ah c) (ah d)=some (kP a b c d):=by
 unfold sR kP
 have g1:=hb.sub ha
 have g2:=hd.sub hc
 have e:=hc.sub ha
 have gt:∀{x:Int×Int},Nr 2000 x->Nr 2000 (yU x):=λh=>by
  obtain⟨h1,h2⟩:=h
  exact⟨by show(-_:Int).natAbs<=_;omega,h1⟩
 have t1:=gt g1
 have t2:=gt g2
 rw[Ye (hb.le Uz) (ha.le Uz),Ye (hd.le Uz) (hc.le Uz),Ye (hc.le Uz) (ha.le Uz)]
 simp only[aA]
 rw[zbz (g1.le Uz),zbz (g2.le Uz)]
 simp only[aA]
 rw[zF]
 generalize hx1:yU (zL b a)=f at *
 generalize hx2:yU (zL d c)=x2 at *
 generalize zL b a=g at *
 generalize zL d c=i at *
 generalize zL c a=j at *
 have f1:=uT t1 ha hb hc hd
 have f2:=uT t2 ha hb hc hd
 have f3:=uT g1 ha hb hc hd
 have f4:=uT g2 ha hb hc hd
 have f5:=uT e ha hb hc hd
 rw[ze]
 simp[ae,zP,f1]
 cases vN f a b c d
 case true=>simp
 simp
 rw[ze]
 simp[ae,zP,f2]
 cases vN x2 a b c d
 case true=>simp
 simp
 rw[ze]
 simp[ae,zP,f3]
 cases vN g a b c d
 case true=>simp
 simp
 rw[ze]
 simp[ae,zP,f4]
 cases vN i a b c d
 case true=>simp
 simp
 rw[ze]
 simp[ae,zP,f5]
 cases vN j a b c d
 case true=>simp
 simp
 rw[ze]
 simp
end
end Go.Proofs.YtocnbjjmmgolfaaGreat
namespace Go.Proofs.YtocnbjjmmgolfaaGreat
open Go Go.M Go.Proofs.C14
theorem rL{A B C D na nb e f:Int}(hA:A<0)(i:0<B)(hC:0<C)(hD:D<0)(hs:B-A=C-D)(hn:B*e-A*f=C*nb-D*na) :
 ¬(na<e/\na<f/\nb<e/\nb<f)/\¬(e<na/\f<na/\e<nb/\f<nb):=by
 have pos:∀{u v:Int},0<u->0<v->0<u*v:=λh g=>Int.mul_pos h g
 constructor
 .rintro⟨h1,h2,k,l⟩
  by_cases h:na<=nb
  .have e1:=pos i (show 0<e-nb by omega)
   have e2:=pos (show 0 < -A by omega) (show 0<f-nb by omega)
   have j:=Int.mul_nonneg (show 0 <= -D by omega) (show 0<=nb-na by omega)
   have:B*(e-nb) + -A*(f-nb) + -D*(nb-na)=(B*e-A*f-(C*nb-D*na))-(B-A-(C-D))*nb:=by grind
   rw[hn,hs]at this
   simp only[Int.sub_self,Int.zero_mul]at this
   omega
  .have e1:=pos i (show 0<e-na by omega)
   have e2:=pos (show 0 < -A by omega) (show 0<f-na by omega)
   have j:=Int.mul_nonneg (show 0<=C by omega) (show 0<=na-nb by omega)
   have:B*(e-na) + -A*(f-na)+C*(na-nb)=(B*e-A*f-(C*nb-D*na))-(B-A-(C-D))*na:=by grind
   rw[hn,hs]at this
   simp only[Int.sub_self,Int.zero_mul]at this
   omega
 .rintro⟨h1,h2,k,l⟩
  by_cases h:na<=nb
  .have e1:=pos i (show 0<na-e by omega)
   have e2:=pos (show 0 < -A by omega) (show 0<na-f by omega)
   have j:=Int.mul_nonneg (show 0<=C by omega) (show 0<=nb-na by omega)
   have:B*(na-e) + -A*(na-f)+C*(nb-na) = -(B*e-A*f-(C*nb-D*na))+(B-A-(C-D))*na:=by grind
   rw[hn,hs]at this
   simp only[Int.sub_self,Int.zero_mul,Int.neg_zero,Int.add_zero]at this
   omega
  .have e1:=pos i (show 0<nb-e by omega)
   have e2:=pos (show 0 < -A by omega) (show 0<nb-f by omega)
   have j:=Int.mul_nonneg (show 0 <= -D by omega) (show 0<=na-nb by omega)
   have:B*(nb-e) + -A*(nb-f) + -D*(na-nb) = -(B*e-A*f-(C*nb-D*na))+(B-A-(C-D))*nb:=by grind
   rw[hn,hs]at this
   simp only[Int.sub_self,Int.zero_mul,Int.neg_zero,Int.add_zero]at this
   omega
theorem X5{m n:Int}(hm:m≠0)(hn:n≠0):yz m 0*yz n 0<0↔(m<0/\0<n)\/(0<m/\n<0):=by
 rcases uD m 0 with h|h|h<;>rcases uD n 0 with g|g|g<;>rw[h.1,g.1]<;>omega
section
variable{a b c d:Int×Int}
theorem QU(e:zf a b c≠0)(f:zf a b d≠0)(g:zf c d a≠0)(i:zf c d b≠0):vC a b c d=kP a b c d:=by
 have hs:zf a b d-zf a b c=zf c d a-zf c d b:=by unfold zf zJ zL;grind
 have hn:∀n:Int×Int,zf a b d*zX n c-zf a b c*zX n d=zf c d a*zX n b-zf c d b*zX n a:=λn=>by unfold zf zJ zL zX;grind
 have k:zX (yU (zL b a)) b=zX (yU (zL b a)) a:=by unfold yU zL zX;grind
 have x2:zX (yU (zL b a)) c=zX (yU (zL b a)) a+zf a b c:=by unfold yU zL zX zf zJ zL;grind
 have l:zX (yU (zL b a)) d=zX (yU (zL b a)) a+zf a b d:=by unfold yU zL zX zf zJ zL;grind
 have m:zX (yU (zL d c)) d=zX (yU (zL d c)) c:=by unfold yU zL zX;grind
 have o:zX (yU (zL d c)) a=zX (yU (zL d c)) c+zf c d a:=by unfold yU zL zX zf zJ zL;grind
 have p:zX (yU (zL d c)) b=zX (yU (zL d c)) c+zf c d b:=by unfold yU zL zX zf zJ zL;grind
 have j:vC a b c d=(decide (yz (zf a b c) 0*yz (zf a b d) 0<0)&&decide (yz (zf c d a) 0*yz (zf c d b) 0<0)):=by
  unfold vC im
  simp[e,f,g,i]
 rw[j]
 simp only[X5 e f,X5 g i]
 by_cases g1:(zf a b c<0/\0<zf a b d)\/(0<zf a b c/\zf a b d<0)
 .by_cases g2:(zf c d a<0/\0<zf c d b)\/(0<zf c d a/\zf c d b<0)
  .have hb:∀n,vN n a b c d=false:=λn=>by
    have:¬(zX n a<zX n c/\zX n a<zX n d/\zX n b<zX n c/\zX n b<zX n d)/\¬(zX n c<zX n a/\zX n d<zX n a/\zX n c<zX n b/\zX n d<zX n b):=by
     rcases g1 with g1|g1
     .exact rL g1.1 g1.2 Oz Oz hs (hn n)
     .exact rL (A:= -zf a b c) (B:= -zf a b d) (C:= -zf c d a) (D:= -zf c d b) Oz Oz Oz Oz Oz (by have:=hn n;grind)
    unfold vN
    rw[<-Bool.not_eq_true]
    simp only[dA,aF,aC,not_or]
    exact⟨λh=>this.1 ⟨h.1.1.1,h.1.1.2,h.1.2,h.2⟩,λh=>this.2 ⟨h.1.1.1,h.1.1.2,h.1.2,h.2⟩⟩
   unfold kP
   simp[hb,g1,g2]
  .have:vN (yU (zL d c)) a b c d=true:=by
    unfold vN
    rw[m,o,p]
    simp only[dA,aF,aC]
    omega
   unfold kP
   simp[this,g2]
 .have:vN (yU (zL b a)) a b c d=true:=by
   unfold vN
   rw[k,x2,l]
   simp only[dA,aF,aC]
   omega
  unfold kP
  simp[this,g1]
end
attribute [local irreducible] zk
section
variable{a b c d:Int×Int}
theorem sP(ha:Nr 1000 a)(hb:Nr 1000 b)(hc:Nr 1000 c)(hd:Nr 1000 d):sO [ah a,ah b,ah c,ah d]=some true:=by
 have v:∀{p:Int×Int},Nr 1000 p->qu (qI p.1)=some true/\qu (qI p.2)=some true:=λh=>⟨J1 (h.le (M:=10000) Uz).s1,J1 (h.le (M:=10000) Uz).s2⟩
 have va:=v ha
 have vb:=v hb
 have e:=v hc
 have f:=v hd
 unfold sO
 rw[zF,ze]
 simp[ae,zP,fV,fQ,va]
 rw[ze]
 simp[zP,fV,fQ,vb]
 rw[ze]
 simp[zP,fV,fQ,e]
 rw[ze]
 simp[zP,fV,fQ,f]
 rw[ze]
 simp
def vf(a b c d:Int×Int):Int:=zJ a b+zJ b c+zJ c d+zJ d a
def jc(a b c d:Int×Int):Bool:= !decide (zf a b c=0) && !kP a b c d && !decide (zf b c d=0) && !kP b c d a && !decide (zf c d a=0) && !kP c d a b && !decide (zf d a b=0) && !kP d a b c&&decide (0<vf a b c d)
theorem Jp{n:Int}(h:n.natAbs<100000000):(qG (qI n) (Rat.divInt 1 2)).bind qA=some (yz n 0):=by
 have hs:Sm (Rat.divInt 1 2):=by decide
 rw[xK (jF (by unfold c7;omega)) hs,aA]
 unfold qI
 have f:QB 2 n.natAbs ((n:Rat)*Rat.divInt 1 2):=⟨n,by rw[Rat.divInt_eq_div];show(n:Rat)*(1 / 2)*2=n;grind,aN _⟩
 rw[Yy (f.sm ⟨by decide,by decide,by omega⟩)]
 congr 1
 have e:((n:Rat)*Rat.divInt 1 2).num*2=n*((n:Rat)*Rat.divInt 1 2).den:=by
  exact WW (D:=2) (by rw[Rat.divInt_eq_div];show(n:Rat)*(1 / 2)*2=n;grind)
 have hp:=((n:Rat)*Rat.divInt 1 2).den_pos
 generalize ((n:Rat)*Rat.divInt 1 2).num=m at *
 generalize ((n:Rat)*Rat.divInt 1 2).den=k at *
 have hk:(0:Int)<k:=by omega
 rcases uD n 0 with g|g|g
 .have:=Int.mul_neg_of_neg_of_pos g.2 hk
  rw[g.1];unfold yz;rw[aG Oz]
 .rw[g.1];rw[g.2,Int.zero_mul]at e;unfold yz;rw[aD Oz,aD Oz]
 .have:=Int.mul_pos g.2 hk
  rw[g.1];unfold yz;rw[aD Oz,aG Oz]
theorem Sb:dh 1 2=some (Rat.divInt 1 2):=aG ⟨by decide,by decide,by decide⟩
theorem JS{w x y z:Rat×Rat}:IT [w,x,y,z] 0=some x/\IT [w,x,y,z] 1=some y/\IT [w,x,y,z] 2=some z/\IT [w,x,y,z] 3=some w:=by
 unfold IT
 simp[ae,zP]
def qZ(a b:Int×Int):Int:=(a.1-b.1)*(a.2+b.2)
theorem Ys(ha:Nr 1000 a)(hb:Nr 1000 b):(qZ a b).natAbs<=4000000:=by
 obtain⟨h1,h2⟩:=ha
 obtain⟨h3,h4⟩:=hb
 exact vn (N:=2000) (M:=2000) Oz Oz
theorem sj:qZ a b+qZ b c+qZ c d+qZ d a=vf a b c d:=by unfold qZ vf zJ;grind
theorem sT(ha:Nr 1000 a)(hb:Nr 1000 b)(hc:Nr 1000 c)(hd:Nr 1000 d):sS [ah a,ah b,ah c,ah d]=qG (qI (vf a b c d)) (Rat.divInt 1 2):=by
 have st:∀{p q:Int×Int} {s:Int},Nr 1000 p->Nr 1000 q->s.natAbs<=20000000->wW (qI p.1) (qI q.1)=some (qI (p.1-q.1))/\qF (qI p.2) (qI q.2)=some (qI (p.2+q.2))/\qG (qI (p.1-q.1)) (qI (p.2+q.2))=some (qI (qZ p q))/\qF (qI s) (qI (qZ p q))=some (qI (s+qZ p q)):=λ{p q s} h g hs=>by
  have ht:=Ys h g
  obtain⟨h1,h2⟩:=h
  obtain⟨e,f⟩:=g
  exact⟨mz (by unfold c7;omega) (by unfold c7;omega),Cu (by unfold c7;omega) (by unfold c7;omega),Ct (by unfold c7;omega) (by unfold c7;omega),Cu (by unfold c7;omega) (by unfold c7;omega)⟩
 have t1:=Ys ha hb
 have t2:=Ys hb hc
 have t3:=Ys hc hd
 have t4:=Ys hd ha
 obtain⟨f1,f2,f3,f4⟩:=st (s:=0) ha hb Oz
 obtain⟨g1,g2,i,j⟩:=st (s:=0+qZ a b) hb hc Oz
 obtain⟨h1,h2,e,f⟩:=st (s:=0+qZ a b+qZ b c) hc hd Oz
 obtain⟨i1,i2,i3,i4⟩:=st (s:=0+qZ a b+qZ b c+qZ c d) hd ha Oz
 rw[show vf a b c d=0+qZ a b+qZ b c+qZ c d+qZ d a by rw[<-sj,Int.zero_add]]
 generalize hz:(0:Int)+qZ a b=s1 at *
 generalize s1+qZ b c=s2 at *
 generalize s2+qZ c d=k at *
 generalize k+qZ d a=s4 at *
 unfold sS
 rw[zF,ze,q0]
 simp[ae,zP,fV,fQ,JS,f1,f2,f3,f4]
 rw[ze]
 simp[zP,fV,fQ,JS,g1,g2,i,j]
 rw[ze]
 simp[zP,fV,fQ,JS,h1,h2,e,f]
 rw[ze]
 simp[zP,fV,fQ,JS,i1,i2,i3,i4]
 rw[ze]
 simp[Sb]
end
end Go.Proofs.YtocnbjjmmgolfaaGreat
namespace Go.Proofs.YtocnbjjmmgolfaaGreat
open Go Go.M Go.Proofs.C14
attribute [local irreducible] zk
section
variable{a b c d:Int×Int}
theorem yk:i64 (-1)=some (-1)/\i64 (-2)=some (-2)/\i64 (-3)=some (-3)/\i64 (-4)=some (-4):=by
 refine⟨?_,?_,?_,?_⟩<;>exact xd Uz
theorem zhP(ha:Nr 1000 a)(hb:Nr 1000 b)(hc:Nr 1000 c)(hd:Nr 1000 d):(vf a b c d).natAbs<100000000:=by
 have h1:=ha.cross hb
 have h2:=hb.cross hc
 have h3:=hc.cross hd
 have h4:=hd.cross ha
 unfold vf
 omega
theorem nN:0+zJ a b+zJ b c+zJ c d+zJ d a=vf a b c d:=by unfold vf;omega
theorem tp(ha:Nr 1000 a)(hb:Nr 1000 b)(hc:Nr 1000 c)(hd:Nr 1000 d):tk [ah a,ah b,ah c,ah d]=qG (qI (vf a b c d)) (Rat.divInt 1 2):=by
 have h1:=ha.cross hb
 have h2:=hb.cross hc
 have h3:=hc.cross hd
 have h4:=hd.cross ha
 have f1:=jz (ha.le (M:=5000) Uz) (hb.le (M:=5000) Uz)
 have f2:=jz (hb.le (M:=5000) Uz) (hc.le (M:=5000) Uz)
 have f3:=jz (hc.le (M:=5000) Uz) (hd.le (M:=5000) Uz)
 have f4:=jz (hd.le (M:=5000) Uz) (ha.le (M:=5000) Uz)
 have g1:=Cu (m:=0) (n:=zJ a b) (by unfold c7;omega) (by unfold c7;omega)
 have g2:=Cu (m:=0+zJ a b) (n:=zJ b c) (by unfold c7;omega) (by unfold c7;omega)
 have e:=Cu (m:=0+zJ a b+zJ b c) (n:=zJ c d) (by unfold c7;omega) (by unfold c7;omega)
 have f:=Cu (m:=0+zJ a b+zJ b c+zJ c d) (n:=zJ d a) (by unfold c7;omega) (by unfold c7;omega)
 rw[<-nN]
 generalize hz:(0:Int)+zJ a b=s1 at *
 generalize s1+zJ b c=s2 at *
 generalize s2+zJ c d=g at *
 generalize g+zJ d a=s4 at *
 unfold tk
 rw[zF,ze,q0]
 simp[ae,zP,yk,f1,g1]
 rw[ze]
 simp[zP,yk,f2,g2]
 rw[ze]
 simp[zP,yk,f3,e]
 rw[ze]
 simp[zP,yk,f4,f]
 rw[ze]
 simp[Sb]
noncomputable def AE(a:List (Rat×Rat))(b:Int)(c:Int->Option Bool):Option Bool:=zk (λd (e:Int)=>if decide (e<a.length)then(i64 (e-b)).bind λf=>(i64 (f+a.length)).bind λg=>if (a.length:Int)=0 then none else if decide (1<(Int.tmod g a.length))then(i64 ((a.length:Int)-1)).bind λh=>if decide ((Int.tmod g a.length)<h)then(ae a b).bind λi=>(i64 (b+1)).bind λj=>(ae a e).bind λk=>(i64 (e+1)).bind λl=>(vy a j).bind λm=>(vy a l).bind λn=>(sR i m k n).bind λo=>if o then some false else(i64 (e+1)).bind λp=>d p else(i64 (e+1)).bind λi=>d i else(i64 (e+1)).bind λh=>d h else(i64 (b+1)).bind λf=>c f) (zi 12) 0
theorem IL(a0:List (Rat×Rat)):Rd a0 =  (if (decide ((a0.length:Int)<3))=true then some false else(if (decide (12<(a0.length:Int)))=true then some false else((sO a0).bind λr1=>(if (!r1)=true then some false else(zk (λg2 (x2:Int)=>(if (decide (x2<(a0.length:Int)))=true then((ae a0 x2).bind λk=>((i64 (x2+1)).bind λn4=>((i64 (x2+2)).bind λg=>((vy a0 n4).bind λh=>((vy a0 g).bind λi=>((sQ k h i).bind λj=>(if (decide (j=0))=true then some false else(AE a0 x2 g2))))))))else((sS a0).bind λe=>((qA e).bind λf=>some (decide (0<f)))))) (zi 12) 0))))):=rfl
theorem N6(ha:Nr 1000 a)(hb:Nr 1000 b)(hc:Nr 1000 c)(hd:Nr 1000 d)(g:Int->Option Bool):AE [ah a,ah b,ah c,ah d] 0 g=if kP a b c d=true then some false else g 1:=by
 have m:=Yl ha hb hc hd
 unfold AE
 rw[zF]
 rw[ze]
 generalize e:zk _ 11=G
 simp[ae,zP,yk,vy]
 rw[<-e]
 rw[ze]
 generalize f:zk _ 10=G
 simp[ae,zP,yk,vy]
 rw[<-f]
 rw[ze]
 generalize h:zk _ 9=G
 simp[ae,zP,yk,vy,m]
 cases kP a b c d
 case true=>simp
 simp
 rw[<-h]
 rw[ze]
 generalize i:zk _ 8=G
 simp[ae,zP,yk,vy]
 rw[<-i]
 rw[ze]
 simp[zP,yk]
theorem N7(ha:Nr 1000 a)(hb:Nr 1000 b)(hc:Nr 1000 c)(hd:Nr 1000 d)(g:Int->Option Bool):AE [ah a,ah b,ah c,ah d] 1 g=if kP b c d a=true then some false else g 2:=by
 have m:=Yl hb hc hd ha
 unfold AE
 rw[zF]
 rw[ze]
 generalize e:zk _ 11=G
 simp[ae,zP,yk,vy]
 rw[<-e]
 rw[ze]
 generalize f:zk _ 10=G
 simp[ae,zP,yk,vy]
 rw[<-f]
 rw[ze]
 generalize h:zk _ 9=G
 simp[ae,zP,yk,vy]
 rw[<-h]
 rw[ze]
 generalize i:zk _ 8=G
 simp[ae,zP,yk,vy,m]
 cases kP b c d a
 case true=>simp
 simp
 rw[<-i]
 rw[ze]
 simp[zP,yk]
theorem N8(ha:Nr 1000 a)(hb:Nr 1000 b)(hc:Nr 1000 c)(hd:Nr 1000 d)(g:Int->Option Bool):AE [ah a,ah b,ah c,ah d] 2 g=if kP c d a b=true then some false else g 3:=by
 have m:=Yl hc hd ha hb
 unfold AE
 rw[zF]
 rw[ze]
 generalize e:zk _ 11=G
 simp[ae,zP,yk,vy,m]
 cases kP c d a b
 case true=>simp
 simp
 rw[<-e]
 rw[ze]
 generalize f:zk _ 10=G
 simp[ae,zP,yk,vy]
 rw[<-f]
 rw[ze]
 generalize h:zk _ 9=G
 simp[ae,zP,yk,vy]
 rw[<-h]
 rw[ze]
 generalize i:zk _ 8=G
 simp[ae,zP,yk,vy]
 rw[<-i]
 rw[ze]
 simp[zP,yk]
theorem N9(ha:Nr 1000 a)(hb:Nr 1000 b)(hc:Nr 1000 c)(hd:Nr 1000 d)(g:Int->Option Bool):AE [ah a,ah b,ah c,ah d] 3 g=if kP d a b c=true then some false else g 4:=by
 have m:=Yl hd ha hb hc
 unfold AE
 rw[zF]
 rw[ze]
 generalize e:zk _ 11=G
 simp[ae,zP,yk,vy]
 rw[<-e]
 rw[ze]
 generalize f:zk _ 10=G
 simp[ae,zP,yk,vy,m]
 cases kP d a b c
 case true=>simp
 simp
 rw[<-f]
 rw[ze]
 generalize h:zk _ 9=G
 simp[ae,zP,yk,vy]
 rw[<-h]
 rw[ze]
 generalize i:zk _ 8=G
 simp[ae,zP,yk,vy]
 rw[<-i]
 rw[ze]
 simp[zP,yk]
theorem zgn(ha:Nr 1000 a)(hb:Nr 1000 b)(hc:Nr 1000 c)(hd:Nr 1000 d):Rd [ah a,ah b,ah c,ah d]=some (jc a b c d):=by
 have f0:=Ym ha hb hc
 have f1:=Ym hb hc hd
 have f2:=Ym hc hd ha
 have f3:=Ym hd ha hb
 have h:=Jp (zhP ha hb hc hd)
 have e:=sT ha hb hc hd
 obtain⟨y,i,f⟩:=zT h
 rw[i]at e
 unfold jc
 rw[IL,sP ha hb hc hd]
 simp only[zF]
 simp
 rw[ze]
 simp[ae,zP,yk,vy,f0,kH,N6 ha hb hc hd]
 by_cases s0:zf a b c=0
 .simp[s0]
 simp[s0]
 cases kP a b c d
 case true=>simp
 simp
 rw[ze]
 simp[ae,zP,yk,vy,f1,kH,N7 ha hb hc hd]
 by_cases s1:zf b c d=0
 .simp[s1]
 simp[s1]
 cases kP b c d a
 case true=>simp
 simp
 rw[ze]
 simp[ae,zP,yk,vy,f2,kH,N8 ha hb hc hd]
 by_cases s2:zf c d a=0
 .simp[s2]
 simp[s2]
 cases kP c d a b
 case true=>simp
 simp
 rw[ze]
 simp[ae,zP,yk,vy,f3,kH,N9 ha hb hc hd]
 by_cases g:zf d a b=0
 .simp[g]
 simp[g]
 cases kP d a b c
 case true=>simp
 simp
 rw[ze]
 simp[e,f,VO]
def KI(a b c d:Int×Int):Bool:= !decide (zf a b c=0) && !vC a b c d && !decide (zf b c d=0) && !vC b c d a && !decide (zf c d a=0) && !decide (zf d a b=0)&&decide (0<vf a b c d)
noncomputable def AD(a:List (Rat×Rat))(b:Int)(c:Int)(d:Int->Option Bool):Option Bool:=zk (λe (f:Int)=>if decide (f<a.length)then(i64 (f+1)).bind λg=>if (a.length:Int)=0 then none else if decide ((Int.tmod g a.length)≠b)then if (a.length:Int)=0 then none else(ae a (Int.tmod b a.length)).bind λh=>(i64 (b+1)).bind λi=>if (a.length:Int)=0 then none else(ae a (Int.tmod i a.length)).bind λj=>if (a.length:Int)=0 then none else(ae a (Int.tmod f a.length)).bind λk=>(i64 (f+1)).bind λl=>if (a.length:Int)=0 then none else(ae a (Int.tmod l a.length)).bind λm=>(tj h j k m).bind λn=>if n then some false else(i64 (f+1)).bind λo=>e o else(i64 (f+1)).bind λh=>e h else(i64 (b+1)).bind λg=>d g) (zi 12) c
theorem B5(a0:List (Rat×Rat)):mO a0 =  (if (decide ((a0.length:Int)<3))=true then some false else(if (decide (12<(a0.length:Int)))=true then some false else(zk (λg1 (k:Int)=>(if (decide (k<(a0.length:Int)))=true then((ae a0 k).bind λx2=>((qu x2.1).bind λp=>(if (!p)=true then some false else((qu x2.2).bind λq=>(if (!q)=true then some false else((i64 (k+1)).bind λn=>g1 n))))))else(zk (λm (e:Int)=>(if (decide (e<(a0.length:Int)))=true then(if (a0.length:Int)=0 then none else((ae a0 (Int.tmod e (a0.length:Int))).bind λr=>((i64 (e+1)).bind λo=>(if (a0.length:Int)=0 then none else((ae a0 (Int.tmod o (a0.length:Int))).bind λs=>((i64 (e+2)).bind λf=>(if (a0.length:Int)=0 then none else((ae a0 (Int.tmod f (a0.length:Int))).bind λl=>((jZ r s l).bind λh=>(if (decide (h=0))=true then some false else((i64 (e+2)).bind λg=>(AD a0 e g m))))))))))))else((tk a0).bind λi=>((qA i).bind λj=>some (decide (0<j)))))) (zi 12) 0))) (zi 12) 0))):=rfl
theorem N2(ha:Nr 1000 a)(hb:Nr 1000 b)(hc:Nr 1000 c)(hd:Nr 1000 d)(g:Int->Option Bool):AD [ah a,ah b,ah c,ah d] 0 2 g=if vC a b c d=true then some false else g 1:=by
 have m:=Yj ha hb hc hd
 unfold AD
 rw[zF]
 rw[ze]
 simp[ae,zP,yk,m]
 cases vC a b c d
 case true=>simp
 simp
 rw[ze]
 simp[ae,zP,yk]
 rw[ze]
 simp[zP,yk]
theorem N3(ha:Nr 1000 a)(hb:Nr 1000 b)(hc:Nr 1000 c)(hd:Nr 1000 d)(g:Int->Option Bool):AD [ah a,ah b,ah c,ah d] 1 3 g=if vC b c d a=true then some false else g 2:=by
 have m:=Yj hb hc hd ha
 unfold AD
 rw[zF]
 rw[ze]
 simp[ae,zP,yk,m]
 cases vC b c d a
 case true=>simp
 simp
 rw[ze]
 simp[zP,yk]
theorem N4(ha:Nr 1000 a)(hb:Nr 1000 b)(hc:Nr 1000 c)(hd:Nr 1000 d)(g:Int->Option Bool):AD [ah a,ah b,ah c,ah d] 2 4 g=g 3:=by
 have m:=Yj hc hd ha hb
 unfold AD
 rw[zF]
 rw[ze]
 simp[zP,yk]
theorem N5(ha:Nr 1000 a)(hb:Nr 1000 b)(hc:Nr 1000 c)(hd:Nr 1000 d)(g:Int->Option Bool):AD [ah a,ah b,ah c,ah d] 3 5 g=g 4:=by
 have m:=Yj hd ha hb hc
 unfold AD
 rw[zF]
 rw[ze]
 simp[zP,yk]
theorem zbA(ha:Nr 1000 a)(hb:Nr 1000 b)(hc:Nr 1000 c)(hd:Nr 1000 d):mO [ah a,ah b,ah c,ah d]=some (KI a b c d):=by
 have v:∀{p:Int×Int},Nr 1000 p->qu (qI p.1)=some true/\qu (qI p.2)=some true:=λh=>⟨J1 (h.le (M:=10000) Uz).s1,J1 (h.le (M:=10000) Uz).s2⟩
 have v0:=v ha
 have f0:=yZ ha hb hc
 have v1:=v hb
 have f1:=yZ hb hc hd
 have v2:=v hc
 have f2:=yZ hc hd ha
 have k:=v hd
 have f3:=yZ hd ha hb
 have i:=Jp (zhP ha hb hc hd)
 have e:=tp ha hb hc hd
 obtain⟨y,j,f⟩:=zT i
 rw[j]at e
 unfold KI
 rw[B5]
 simp only[zF]
 simp
 rw[ze]
 simp[ae,zP,yk,fV,fQ,v0]
 rw[ze]
 simp[ae,zP,yk,fV,fQ,v1]
 rw[ze]
 simp[ae,zP,yk,fV,fQ,v2]
 rw[ze]
 simp[ae,zP,yk,fV,fQ,k]
 rw[ze]
 simp[zP,yk]
 rw[ze]
 simp[ae,zP,yk,f0,kH,N2 ha hb hc hd]
 by_cases s0:zf a b c=0
 .simp[s0]
 simp[s0]
 cases vC a b c d
 case true=>simp
 simp
 rw[ze]
 simp[ae,zP,yk,f1,kH,N3 ha hb hc hd]
 by_cases s1:zf b c d=0
 .simp[s1]
 simp[s1]
 cases vC b c d a
 case true=>simp
 simp
 rw[ze]
 simp[ae,zP,yk,f2,kH,N4 ha hb hc hd]
 by_cases s2:zf c d a=0
 .simp[s2]
 simp[s2]
 rw[ze]
 simp[ae,zP,yk,f3,kH,N5 ha hb hc hd]
 by_cases g:zf d a b=0
 .simp[g]
 simp[g]
 rw[ze]
 simp[e,f,VO]
end
end Go.Proofs.YtocnbjjmmgolfaaGreat
namespace Go.Proofs.YtocnbjjmmgolfaaGreat
open Go Go.M Go.Proofs.C14
attribute [local irreducible] zk
section
variable{a b c d:Int×Int}
theorem Yz:zf a b c=zf c a b:=by unfold zf zJ zL;grind
theorem K9:vC c d a b=vC a b c d:=by
 unfold vC
 generalize decide (yz (zf a b c) 0*yz (zf a b d) 0<0)=x
 generalize decide (yz (zf c d a) 0*yz (zf c d b) 0<0)=y
 generalize im a b c=p
 generalize im a b d=q
 generalize im c d a=r
 generalize im c d b=s
 cases x<;>cases y<;>cases p<;>cases q<;>cases r<;>cases s<;>rfl
theorem fg:KI a b c d=jc a b c d:=by
 unfold KI jc
 by_cases h0:zf a b c=0
 .simp[h0]
 by_cases h1:zf b c d=0
 .simp[h1]
 by_cases h2:zf c d a=0
 .simp[h2]
 by_cases e:zf d a b=0
 .simp[e]
 have e1:zf a b d≠0:=by rw[Yz];exact e
 have e2:zf c d b≠0:=by rw[Yz];exact h1
 have f:zf b c a≠0:=by rw[Yz];exact h0
 have g:zf d a c≠0:=by rw[Yz];exact h2
 have h:=QU h0 e1 h2 e2
 have m1:=QU h1 f e g
 have m2:=QU h2 e2 h0 e1
 have m3:=QU e g h1 f
 rw[<-h,<-m1,<-m2,<-m3,K9,K9 (a:=b) (b:=c) (c:=d) (d:=a)]
 cases vC a b c d<;>cases vC b c d a<;>simp[h0,h1,h2,e]
end
end Go.Proofs.YtocnbjjmmgolfaaGreat
namespace Go.Proofs.YtocnbjjmmgolfaaGreat
open Go Go.M Go.Proofs.C14
attribute [local irreducible] zk
section
variable{a b c d:Int×Int}
theorem wX(h:Nr 10000 a):m6 a.1 a.2=some (ah a):=by
 obtain⟨h1,h2⟩:=h
 unfold m6
 rw[l8 Oz,l8 Oz]
 rfl
theorem wF(h:Nr 10000 a):Xd a.1 a.2=some (ah a):=by
 obtain⟨h1,h2⟩:=h
 unfold Xd
 rw[l8 Oz,l8 Oz]
 rfl
theorem zgm{p:Pc}(hp:p.2.2.1=[a,b,c,d])(ha:Nr 1000 a)(hb:Nr 1000 b)(hc:Nr 1000 c)(hd:Nr 1000 d):IM p=some [ah a,ah b,ah c,ah d]:=by
 have f:=wX (ha.le (M:=10000) Uz)
 have g:=wX (hb.le (M:=10000) Uz)
 have h:=wX (hc.le (M:=10000) Uz)
 have fd:=wX (hd.le (M:=10000) Uz)
 unfold IM
 rw[hp,zF,ze]
 generalize e:zk _ 11=G
 simp[ae,zP,f,app]
 rw[<-e,ze];clear e
 generalize e:zk _ 10=G
 simp[ae,zP,g,app]
 rw[<-e,ze];clear e
 generalize e:zk _ 9=G
 simp[ae,zP,h,app]
 rw[<-e,ze];clear e
 generalize e:zk _ 8=G
 simp[ae,zP,fd,app]
 rw[<-e,ze]
 simp
theorem zbE{p:Pc}(hp:p.2.2.1=[a,b,c,d])(ha:Nr 1000 a)(hb:Nr 1000 b)(hc:Nr 1000 c)(hd:Nr 1000 d):JX p=some [ah a,ah b,ah c,ah d]:=by
 have f:=wF (ha.le (M:=10000) Uz)
 have g:=wF (hb.le (M:=10000) Uz)
 have h:=wF (hc.le (M:=10000) Uz)
 have fd:=wF (hd.le (M:=10000) Uz)
 unfold JX
 rw[hp,zF,ze]
 generalize e:zk _ 11=G
 simp[ae,zP,f,app]
 rw[<-e,ze];clear e
 generalize e:zk _ 10=G
 simp[ae,zP,g,app]
 rw[<-e,ze];clear e
 generalize e:zk _ 9=G
 simp[ae,zP,h,app]
 rw[<-e,ze];clear e
 generalize e:zk _ 8=G
 simp[ae,zP,fd,app]
 rw[<-e,ze]
 simp
end
end Go.Proofs.YtocnbjjmmgolfaaGreat
namespace Go.Proofs.YtocnbjjmmgolfaaGreat
open Go Go.M Go.Proofs.C14
noncomputable section
def vm(a:Int×(List V)×List Int)(b:Int)(c d e:Rat×Rat)(f g:Int)(h i:Int->Option ((List (Int×Int×Int))×Int))(j:(Int)->Option ((List (Int×Int×Int))×Int))(k:Int):Option ((List (Int×Int×Int))×Int):=if decide (k<([c,d,e].length:Int))then(ae [c,d,e] k).bind λl=>(ae [c,d,e] k).bind λm=>(i64 (k+1)).bind λn=>if 3=0 then none else(ae [c,d,e] (Int.tmod n 3)).bind λo=>(ae [c,d,e] (Int.tmod n 3)).bind λp=>(ae a.2.1 g).bind λq=>(jZ m p q).bind λr=>if decide (r<0)then(i64 (f+1)).bind λs=>i s else(i64 (k+1)).bind λs=>j s else(i64 (b+1)).bind λl=>h l
def qC(a:Int×(List V)×List Int)(b c d:Int)(e f g:Rat×Rat)(h:Int->Option ((List (Int×Int×Int))×Int))(i:(Int)->Option ((List (Int×Int×Int))×Int))(j:Int):Option ((List (Int×Int×Int))×Int):=if decide (j<a.2.2.length)then(ae a.2.2 j).bind λk=>(ae a.2.2 j).bind λl=>if decide (l=c)then(i64 (j+1)).bind λm=>i m else if decide (l=d)then(i64 (j+1)).bind λm=>i m else(ae a.2.2 b).bind λm=>(ae a.2.2 b).bind λn=>if decide (l=n)then(i64 (j+1)).bind λo=>i o else zk (vm a b e f g j l h i) (zi 12) 0 else(i64 (b-1)).bind λk=>(i64 (k+a.2.2.length)).bind λl=>if (a.2.2.length:Int)=0 then none else(ae a.2.2 (Int.tmod l a.2.2.length)).bind λm=>(ae a.2.2 (Int.tmod l a.2.2.length)).bind λn=>(i64 (b+1)).bind λo=>(i64 (o+a.2.2.length)).bind λp=>if (a.2.2.length:Int)=0 then none else(ae a.2.2 (Int.tmod p a.2.2.length)).bind λq=>(ae a.2.2 (Int.tmod p a.2.2.length)).bind λr=>(ae a.2.2 b).bind λs=>(ae a.2.2 b).bind λt=>(i64 (b+1)).bind λu=>(Gd a.2.2 b u).bind λv=>if decide (3<(v.length:Int))then none else(app ([]:List (Int×Int×Int)) [(n,t,r)]).bind λw=>if decide (3<(v.length:Int))then zk (λx (y:Int)=>(i64 ((v.length:Int)-1)).bind λz=>if decide (y<z)then(i64 (y-1)).bind λA=>(i64 (A+v.length)).bind λB=>if (v.length:Int)=0 then none else(ae v (Int.tmod B v.length)).bind λC=>(i64 (y+1)).bind λD=>(i64 (D+v.length)).bind λE=>if (v.length:Int)=0 then none else(ae v (Int.tmod E v.length)).bind λF=>(ae a.2.1 C).bind λG=>(ae v y).bind λH=>(ae a.2.1 H).bind λI=>(ae a.2.1 F).bind λJ=>(jZ G I J).bind λK=>if decide (K<=0)then(i64 (y+1)).bind λL=>x L else(i64 (y-1)).bind λL=>(i64 (L+v.length)).bind λM=>if (v.length:Int)=0 then none else(ae v (Int.tmod M v.length)).bind λN=>(i64 (y+1)).bind λO=>(i64 (O+v.length)).bind λP=>if (v.length:Int)=0 then none else(ae v (Int.tmod P v.length)).bind λQ=>(ae a.2.1 N).bind λR=>(ae v y).bind λS=>(ae a.2.1 S).bind λT=>(ae a.2.1 Q).bind λU=>zk (λW (X:Int)=>if decide (X<v.length)then(ae v X).bind λY=>if decide (Y=N)then(i64 (X+1)).bind λZ=>W Z else if decide (Y=Q)then(i64 (X+1)).bind λZ=>W Z else(ae v y).bind λZ=>if decide (Y=Z)then(i64 (X+1)).bind λa0=>W a0 else zk (λa0 (a1:Int)=>if decide (a1<([R,T,U].length:Int))then(ae [R,T,U] a1).bind λa2=>(ae [R,T,U] a1).bind λa3=>(i64 (a1+1)).bind λa4=>if 3=0 then none else(ae [R,T,U] (Int.tmod a4 3)).bind λa5=>(ae [R,T,U] (Int.tmod a4 3)).bind λa6=>(ae a.2.1 Y).bind λa7=>(jZ a3 a6 a7).bind λa8=>if decide (a8<0)then(i64 (X+1)).bind λa9=>W a9 else(i64 (a1+1)).bind λa9=>a0 a9 else(i64 (y+1)).bind λa2=>x a2) (zi 12) 0 else(i64 (y-1)).bind λY=>(i64 (Y+v.length)).bind λZ=>if (v.length:Int)=0 then none else(ae v (Int.tmod Z v.length)).bind λa0=>(i64 (y+1)).bind λa1=>(i64 (a1+v.length)).bind λa2=>if (v.length:Int)=0 then none else(ae v (Int.tmod a2 v.length)).bind λa3=>(ae v y).bind λa4=>(i64 (y+1)).bind λa5=>none) (zi 12) 0 else(i64 (y-1)).bind λA=>(i64 (A+v.length)).bind λB=>if (v.length:Int)=0 then none else(ae v (Int.tmod B v.length)).bind λC=>(i64 (y+1)).bind λD=>(i64 (D+v.length)).bind λE=>if (v.length:Int)=0 then none else(ae v (Int.tmod E v.length)).bind λF=>(ae v y).bind λG=>(i64 (y+1)).bind λH=>none) (zi 12) 0 else if 3<=(v.length:Int)then(ae v 0).bind λx=>(ae v 1).bind λy=>(ae v 2).bind λz=>(app w [(x,y,z)]).bind λA=>some (A,0)else none
def fU(a:Int×(List V)×List Int)(b:(Int)->Option ((List (Int×Int×Int))×Int))(c:Int):Option ((List (Int×Int×Int))×Int):=(i64 ((a.2.2.length:Int)-1)).bind λd=>if decide (c<d)then(i64 (c-1)).bind λe=>(i64 (e+a.2.2.length)).bind λf=>if (a.2.2.length:Int)=0 then none else(ae a.2.2 (Int.tmod f a.2.2.length)).bind λg=>(ae a.2.2 (Int.tmod f a.2.2.length)).bind λh=>(i64 (c+1)).bind λi=>(i64 (i+a.2.2.length)).bind λj=>if (a.2.2.length:Int)=0 then none else(ae a.2.2 (Int.tmod j a.2.2.length)).bind λk=>(ae a.2.2 (Int.tmod j a.2.2.length)).bind λl=>(ae a.2.1 h).bind λm=>(ae a.2.2 c).bind λn=>(ae a.2.2 c).bind λo=>(ae a.2.1 o).bind λp=>(ae a.2.1 l).bind λq=>(jZ m p q).bind λr=>if decide (r<=0)then(i64 (c+1)).bind λs=>b s else(i64 (c-1)).bind λs=>(i64 (s+a.2.2.length)).bind λt=>if (a.2.2.length:Int)=0 then none else(ae a.2.2 (Int.tmod t a.2.2.length)).bind λu=>(ae a.2.2 (Int.tmod t a.2.2.length)).bind λv=>(i64 (c+1)).bind λw=>(i64 (w+a.2.2.length)).bind λx=>if (a.2.2.length:Int)=0 then none else(ae a.2.2 (Int.tmod x a.2.2.length)).bind λy=>(ae a.2.2 (Int.tmod x a.2.2.length)).bind λz=>(ae a.2.1 v).bind λA=>(ae a.2.2 c).bind λB=>(ae a.2.2 c).bind λC=>(ae a.2.1 C).bind λD=>(ae a.2.1 z).bind λE=>zk (qC a c v z A D E b) (zi 12) 0 else(i64 (c-1)).bind λe=>(i64 (e+a.2.2.length)).bind λf=>if (a.2.2.length:Int)=0 then none else(ae a.2.2 (Int.tmod f a.2.2.length)).bind λg=>(ae a.2.2 (Int.tmod f a.2.2.length)).bind λh=>(i64 (c+1)).bind λi=>(i64 (i+a.2.2.length)).bind λj=>if (a.2.2.length:Int)=0 then none else(ae a.2.2 (Int.tmod j a.2.2.length)).bind λk=>(ae a.2.2 (Int.tmod j a.2.2.length)).bind λl=>(ae a.2.2 c).bind λm=>(ae a.2.2 c).bind λn=>(i64 (c+1)).bind λo=>(Gd a.2.2 c o).bind λp=>if decide (3<(p.length:Int))then none else(app ([]:List (Int×Int×Int)) [(h,n,l)]).bind λq=>if decide (3<(p.length:Int))then zk (λr (s:Int)=>(i64 ((p.length:Int)-1)).bind λt=>if decide (s<t)then(i64 (s-1)).bind λu=>(i64 (u+p.length)).bind λv=>if (p.length:Int)=0 then none else(ae p (Int.tmod v p.length)).bind λw=>(i64 (s+1)).bind λx=>(i64 (x+p.length)).bind λy=>if (p.length:Int)=0 then none else(ae p (Int.tmod y p.length)).bind λz=>(ae a.2.1 w).bind λA=>(ae p s).bind λB=>(ae a.2.1 B).bind λC=>(ae a.2.1 z).bind λD=>(jZ A C D).bind λE=>if decide (E<=0)then(i64 (s+1)).bind λF=>r F else(i64 (s-1)).bind λF=>(i64 (F+p.length)).bind λG=>if (p.length:Int)=0 then none else(ae p (Int.tmod G p.length)).bind λH=>(i64 (s+1)).bind λI=>(i64 (I+p.length)).bind λJ=>if (p.length:Int)=0 then none else(ae p (Int.tmod J p.length)).bind λK=>(ae a.2.1 H).bind λL=>(ae p s).bind λM=>(ae a.2.1 M).bind λN=>(ae a.2.1 K).bind λO=>zk (λP (Q:Int)=>if decide (Q<p.length)then(ae p Q).bind λR=>if decide (R=H)then(i64 (Q+1)).bind λS=>P S else if decide (R=K)then(i64 (Q+1)).bind λS=>P S else(ae p s).bind λS=>if decide (R=S)then(i64 (Q+1)).bind λT=>P T else zk (λT (U:Int)=>if decide (U<([L,N,O].length:Int))then(ae [L,N,O] U).bind λW=>(ae [L,N,O] U).bind λX=>(i64 (U+1)).bind λY=>if 3=0 then none else(ae [L,N,O] (Int.tmod Y 3)).bind λZ=>(ae [L,N,O] (Int.tmod Y 3)).bind λa0=>(ae a.2.1 R).bind λa1=>(jZ X a0 a1).bind λa2=>if decide (a2<0)then(i64 (Q+1)).bind λa3=>P a3 else(i64 (U+1)).bind λa3=>T a3 else(i64 (s+1)).bind λW=>r W) (zi 12) 0 else(i64 (s-1)).bind λR=>(i64 (R+p.length)).bind λS=>if (p.length:Int)=0 then none else(ae p (Int.tmod S p.length)).bind λT=>(i64 (s+1)).bind λU=>(i64 (U+p.length)).bind λW=>if (p.length:Int)=0 then none else(ae p (Int.tmod W p.length)).bind λX=>(ae p s).bind λY=>(i64 (s+1)).bind λZ=>none) (zi 12) 0 else(i64 (s-1)).bind λu=>(i64 (u+p.length)).bind λv=>if (p.length:Int)=0 then none else(ae p (Int.tmod v p.length)).bind λw=>(i64 (s+1)).bind λx=>(i64 (x+p.length)).bind λy=>if (p.length:Int)=0 then none else(ae p (Int.tmod y p.length)).bind λz=>(ae p s).bind λA=>(i64 (s+1)).bind λB=>none) (zi 12) 0 else if 3<=(p.length:Int)then(ae p 0).bind λr=>(ae p 1).bind λs=>(ae p 2).bind λt=>(app q [(r,s,t)]).bind λu=>some (u,0)else none
def qy(a:List V)(b:(Int×(List V)×List Int)->Option ((List (Int×Int×Int))×Int))(c:Int×(List V)×List Int):Option ((List (Int×Int×Int))×Int):=if decide (c.1<a.length)then(app c.2.2 [c.1]).bind λd=>(i64 (c.1+1)).bind λe=>b (e,c.2.1,d)else if decide (3<(c.2.2.length:Int))then zk (fU c) (zi 12) 0 else none
def tw(a:List V):Option ((List (Int×Int×Int))×Int):=(mO a).bind λb=>if !b then some ([],1)else zk (qy a) (zi 12) (0,a,[])
def EB:=zm EL 263 ⟨[dz],(.tup SS i6),43486500,λx=>tw x⟩
theorem US:ad EB:=cn [(263,[{frz:=[],cst:=[],vars:=[],objs:=[],own:=[],ts:=[],fuel:=2,un:=true},hi [] [4,5] [(6,false,[.hole])] [] [] [i6] 12]),(285,[hi [] [3,9] [(10,false,[.hole])] [(0,[.hole,.own 0])] [⟨.o 0 1,3,1,i6⟩] [i6,dz,S3] 12]),(286,[hi [] [0,1,5,6,7,52,53] [(54,false,[.hole])] [] [] [i6] 12,hi [] [9,54,78] [(79,false,[.hole])] [] [] [i6] 12]),(308,[{frz:=[],cst:=[],vars:=[],objs:=[],own:=[],ts:=[],fuel:=1,un:=true}])] [43486500,1113420,7631,5,2] U3
end
def wN(w x y z:Int×Int):Bool:=decide (0<zf w x y) && !(decide (0<=zf w x z)&&decide (0<=zf x y z)&&decide (0<=zf y w z))
def so(a b c d:Int×Int):List (Int×Int×Int):=if wN d a b c=true then [(3,0,1),(1,2,3)]else if wN a b c d=true then [(0,1,2),(0,2,3)]else if wN b c d a=true then [(1,2,3),(0,1,3)]else [(2,3,0),(0,1,2)]
def vL(a b c d:Int×Int):List (List (Int×Int)):=if wN d a b c=true then [[d,a,b],[b,c,d]]else if wN a b c d=true then [[a,b,c],[a,c,d]]else if wN b c d a=true then [[b,c,d],[a,b,d]]else [[c,d,a],[a,b,c]]
section
variable{a b c d:Int×Int}
theorem Bj(ha:Nr 1000 a)(hb:Nr 1000 b)(hc:Nr 1000 c)(hd:Nr 1000 d)(h e g:Int->Option ((List (Int×Int×Int))×Int)):vm (4,[ah a,ah b,ah c,ah d],[0,1,2,3]) 0 (ah d) (ah a) (ah b) 2 2 h e g 0=if zf d a c<0 then e 3 else g 1:=by
 have f:=yZ hd ha hc
 unfold vm
 simp[ae,zP,yk,f,kG]
theorem Bk(ha:Nr 1000 a)(hb:Nr 1000 b)(hc:Nr 1000 c)(hd:Nr 1000 d)(h e g:Int->Option ((List (Int×Int×Int))×Int)):vm (4,[ah a,ah b,ah c,ah d],[0,1,2,3]) 0 (ah d) (ah a) (ah b) 2 2 h e g 1=if zf a b c<0 then e 3 else g 2:=by
 have f:=yZ ha hb hc
 unfold vm
 simp[ae,zP,yk,f,kG]
theorem Bl(ha:Nr 1000 a)(hb:Nr 1000 b)(hc:Nr 1000 c)(hd:Nr 1000 d)(h e g:Int->Option ((List (Int×Int×Int))×Int)):vm (4,[ah a,ah b,ah c,ah d],[0,1,2,3]) 0 (ah d) (ah a) (ah b) 2 2 h e g 2=if zf b d c<0 then e 3 else g 3:=by
 have f:=yZ hb hd hc
 unfold vm
 simp[ae,zP,yk,f,kG]
theorem Bm(g e f:Int->Option ((List (Int×Int×Int))×Int)):vm (4,[ah a,ah b,ah c,ah d],[0,1,2,3]) 0 (ah d) (ah a) (ah b) 2 2 g e f 3=g 1:=by
 unfold vm
 simp[zP,yk]
theorem A2(f e:Int->Option ((List (Int×Int×Int))×Int)):qC (4,[ah a,ah b,ah c,ah d],[0,1,2,3]) 0 3 1 (ah d) (ah a) (ah b) f e 0=e 1:=by
 unfold qC
 simp[ae,zP,yk]
theorem A3(f e:Int->Option ((List (Int×Int×Int))×Int)):qC (4,[ah a,ah b,ah c,ah d],[0,1,2,3]) 0 3 1 (ah d) (ah a) (ah b) f e 1=e 2:=by
 unfold qC
 simp[ae,zP,yk]
theorem q3(f e:Int->Option ((List (Int×Int×Int))×Int)):qC (4,[ah a,ah b,ah c,ah d],[0,1,2,3]) 0 3 1 (ah d) (ah a) (ah b) f e 2=zk (vm (4,[ah a,ah b,ah c,ah d],[0,1,2,3]) 0 (ah d) (ah a) (ah b) 2 2 f e) (zi 12) 0:=by
 unfold qC
 generalize vm=B
 simp[ae,zP,yk]
theorem A4(ha:Nr 1000 a)(hb:Nr 1000 b)(hc:Nr 1000 c)(hd:Nr 1000 d)(f e:Int->Option ((List (Int×Int×Int))×Int)):qC (4,[ah a,ah b,ah c,ah d],[0,1,2,3]) 0 3 1 (ah d) (ah a) (ah b) f e 2=if (decide (0<=zf d a c)&&decide (0<=zf a b c)&&decide (0<=zf b d c))=true then f 1 else e 3:=by
 rw[q3,zF,ze,Bj ha hb hc hd]
 by_cases h1:zf d a c<0
 .have:¬0<=zf d a c:=by omega
  simp only[h1,this,dQ,dR,eW,aV,cK]
 rw[aD h1,ze,Bk ha hb hc hd]
 by_cases h2:zf a b c<0
 .have:¬0<=zf a b c:=by omega
  simp only[h2,this,dQ,dR,eW,Bool.and_false,aV,cK]
 rw[aD h2,ze,Bl ha hb hc hd]
 by_cases g:zf b d c<0
 .have:¬0<=zf b d c:=by omega
  simp only[g,this,dQ,dR,eW,Bool.and_false,aV,cK]
 rw[aD g,ze,Bm,aG]
 simp only[aF,aC]
 omega
theorem A6(f e:Int->Option ((List (Int×Int×Int))×Int)):qC (4,[ah a,ah b,ah c,ah d],[0,1,2,3]) 0 3 1 (ah d) (ah a) (ah b) f e 3=e 4:=by
 unfold qC
 simp[ae,zP,yk]
theorem A7(f e:Int->Option ((List (Int×Int×Int))×Int)):qC (4,[ah a,ah b,ah c,ah d],[0,1,2,3]) 0 3 1 (ah d) (ah a) (ah b) f e 4=some ([(3,0,1),(1,2,3)],0):=by
 unfold qC
 simp[ae,zP,yk,Gd,app]
theorem Hq{s:Int}(f:jZ (ah d) (ah a) (ah b)=some s)(e:Int->Option ((List (Int×Int×Int))×Int)):fU (4,[ah a,ah b,ah c,ah d],[0,1,2,3]) e 0=if s<=0 then e 1 else zk (qC (4,[ah a,ah b,ah c,ah d],[0,1,2,3]) 0 3 1 (ah d) (ah a) (ah b) e) (zi 12) 0:=by
 unfold fU
 generalize qC=B
 simp[ae,zP,yk,f]
theorem OJ(ha:Nr 1000 a)(hb:Nr 1000 b)(hc:Nr 1000 c)(hd:Nr 1000 d)(f:Int->Option ((List (Int×Int×Int))×Int)):fU (4,[ah a,ah b,ah c,ah d],[0,1,2,3]) f 0=if wN d a b c=true then some ([(3,0,1),(1,2,3)],0)else f 1:=by
 rw[Hq (yZ hd ha hb),zF]
 unfold wN
 by_cases h:zf d a b<=0
 .have h2:¬0<zf d a b:=by omega
  rw[aG (dC.mpr h)]
  simp only[h2,dR,eW,aV,cK]
 rw[aD (λe=>h (dC.mp e)),show decide (0<zf d a b)=true from aH Oz,Bool.true_and]
 have e:=A4 ha hb hc hd f
 generalize (decide (0<=zf d a c)&&decide (0<=zf a b c)&&decide (0<=zf b d c))=t at *
 rw[ze,A2]
 rw[ze,A3]
 rw[ze,e]
 cases t
 case true=>rw[aG rfl,aD Uz]
 rw[aD Uz,aG Uz]
 rw[ze,A6]
 rw[ze,A7]
theorem Bn(ha:Nr 1000 a)(hb:Nr 1000 b)(hc:Nr 1000 c)(hd:Nr 1000 d)(h e g:Int->Option ((List (Int×Int×Int))×Int)):vm (4,[ah a,ah b,ah c,ah d],[0,1,2,3]) 1 (ah a) (ah b) (ah c) 3 3 h e g 0=if zf a b d<0 then e 4 else g 1:=by
 have f:=yZ ha hb hd
 unfold vm
 simp[ae,zP,yk,f,kG]
theorem Bo(ha:Nr 1000 a)(hb:Nr 1000 b)(hc:Nr 1000 c)(hd:Nr 1000 d)(h e g:Int->Option ((List (Int×Int×Int))×Int)):vm (4,[ah a,ah b,ah c,ah d],[0,1,2,3]) 1 (ah a) (ah b) (ah c) 3 3 h e g 1=if zf b c d<0 then e 4 else g 2:=by
 have f:=yZ hb hc hd
 unfold vm
 simp[ae,zP,yk,f,kG]
theorem Bp(ha:Nr 1000 a)(hb:Nr 1000 b)(hc:Nr 1000 c)(hd:Nr 1000 d)(h e g:Int->Option ((List (Int×Int×Int))×Int)):vm (4,[ah a,ah b,ah c,ah d],[0,1,2,3]) 1 (ah a) (ah b) (ah c) 3 3 h e g 2=if zf c a d<0 then e 4 else g 3:=by
 have f:=yZ hc ha hd
 unfold vm
 simp[ae,zP,yk,f,kG]
theorem Bq(g e f:Int->Option ((List (Int×Int×Int))×Int)):vm (4,[ah a,ah b,ah c,ah d],[0,1,2,3]) 1 (ah a) (ah b) (ah c) 3 3 g e f 3=g 2:=by
 unfold vm
 simp[zP,yk]
theorem A8(f e:Int->Option ((List (Int×Int×Int))×Int)):qC (4,[ah a,ah b,ah c,ah d],[0,1,2,3]) 1 0 2 (ah a) (ah b) (ah c) f e 0=e 1:=by
 unfold qC
 simp[ae,zP,yk]
theorem A9(f e:Int->Option ((List (Int×Int×Int))×Int)):qC (4,[ah a,ah b,ah c,ah d],[0,1,2,3]) 1 0 2 (ah a) (ah b) (ah c) f e 1=e 2:=by
 unfold qC
 simp[ae,zP,yk]
theorem Ba(f e:Int->Option ((List (Int×Int×Int))×Int)):qC (4,[ah a,ah b,ah c,ah d],[0,1,2,3]) 1 0 2 (ah a) (ah b) (ah c) f e 2=e 3:=by
 unfold qC
 simp[ae,zP,yk]
theorem q4(f e:Int->Option ((List (Int×Int×Int))×Int)):qC (4,[ah a,ah b,ah c,ah d],[0,1,2,3]) 1 0 2 (ah a) (ah b) (ah c) f e 3=zk (vm (4,[ah a,ah b,ah c,ah d],[0,1,2,3]) 1 (ah a) (ah b) (ah c) 3 3 f e) (zi 12) 0:=by
 unfold qC
 generalize vm=B
 simp[ae,zP,yk]
theorem Bb(ha:Nr 1000 a)(hb:Nr 1000 b)(hc:Nr 1000 c)(hd:Nr 1000 d)(f e:Int->Option ((List (Int×Int×Int))×Int)):qC (4,[ah a,ah b,ah c,ah d],[0,1,2,3]) 1 0 2 (ah a) (ah b) (ah c) f e 3=if (decide (0<=zf a b d)&&decide (0<=zf b c d)&&decide (0<=zf c a d))=true then f 2 else e 4:=by
 rw[q4,zF,ze,Bn ha hb hc hd]
 by_cases h1:zf a b d<0
 .have:¬0<=zf a b d:=by omega
  simp only[h1,this,dQ,dR,eW,aV,cK]
 rw[aD h1,ze,Bo ha hb hc hd]
 by_cases h2:zf b c d<0
 .have:¬0<=zf b c d:=by omega
  simp only[h2,this,dQ,dR,eW,Bool.and_false,aV,cK]
 rw[aD h2,ze,Bp ha hb hc hd]
 by_cases g:zf c a d<0
 .have:¬0<=zf c a d:=by omega
  simp only[g,this,dQ,dR,eW,Bool.and_false,aV,cK]
 rw[aD g,ze,Bq,aG]
 simp only[aF,aC]
 omega
theorem Bc(f e:Int->Option ((List (Int×Int×Int))×Int)):qC (4,[ah a,ah b,ah c,ah d],[0,1,2,3]) 1 0 2 (ah a) (ah b) (ah c) f e 4=some ([(0,1,2),(0,2,3)],0):=by
 unfold qC
 simp[ae,zP,yk,Gd,app]
theorem Hr{s:Int}(f:jZ (ah a) (ah b) (ah c)=some s)(e:Int->Option ((List (Int×Int×Int))×Int)):fU (4,[ah a,ah b,ah c,ah d],[0,1,2,3]) e 1=if s<=0 then e 2 else zk (qC (4,[ah a,ah b,ah c,ah d],[0,1,2,3]) 1 0 2 (ah a) (ah b) (ah c) e) (zi 12) 0:=by
 unfold fU
 generalize qC=B
 simp[ae,zP,yk,f]
theorem OK(ha:Nr 1000 a)(hb:Nr 1000 b)(hc:Nr 1000 c)(hd:Nr 1000 d)(f:Int->Option ((List (Int×Int×Int))×Int)):fU (4,[ah a,ah b,ah c,ah d],[0,1,2,3]) f 1=if wN a b c d=true then some ([(0,1,2),(0,2,3)],0)else f 2:=by
 rw[Hr (yZ ha hb hc),zF]
 unfold wN
 by_cases h:zf a b c<=0
 .have h2:¬0<zf a b c:=by omega
  rw[aG (dC.mpr h)]
  simp only[h2,dR,eW,aV,cK]
 rw[aD (λe=>h (dC.mp e)),show decide (0<zf a b c)=true from aH Oz,Bool.true_and]
 have e:=Bb ha hb hc hd f
 generalize (decide (0<=zf a b d)&&decide (0<=zf b c d)&&decide (0<=zf c a d))=t at *
 rw[ze,A8]
 rw[ze,A9]
 rw[ze,Ba]
 rw[ze,e]
 cases t
 case true=>rw[aG rfl,aD Uz]
 rw[aD Uz,aG Uz]
 rw[ze,Bc]
theorem Br(ha:Nr 1000 a)(hb:Nr 1000 b)(hc:Nr 1000 c)(hd:Nr 1000 d)(h e g:Int->Option ((List (Int×Int×Int))×Int)):vm (4,[ah a,ah b,ah c,ah d],[0,1,2,3]) 2 (ah b) (ah c) (ah d) 0 0 h e g 0=if zf b c a<0 then e 1 else g 1:=by
 have f:=yZ hb hc ha
 unfold vm
 simp[ae,zP,yk,f,kG]
theorem Bs(ha:Nr 1000 a)(hb:Nr 1000 b)(hc:Nr 1000 c)(hd:Nr 1000 d)(h e g:Int->Option ((List (Int×Int×Int))×Int)):vm (4,[ah a,ah b,ah c,ah d],[0,1,2,3]) 2 (ah b) (ah c) (ah d) 0 0 h e g 1=if zf c d a<0 then e 1 else g 2:=by
 have f:=yZ hc hd ha
 unfold vm
 simp[ae,zP,yk,f,kG]
theorem Bt(ha:Nr 1000 a)(hb:Nr 1000 b)(hc:Nr 1000 c)(hd:Nr 1000 d)(h e g:Int->Option ((List (Int×Int×Int))×Int)):vm (4,[ah a,ah b,ah c,ah d],[0,1,2,3]) 2 (ah b) (ah c) (ah d) 0 0 h e g 2=if zf d b a<0 then e 1 else g 3:=by
 have f:=yZ hd hb ha
 unfold vm
 simp[ae,zP,yk,f,kG]
theorem Bu(g e f:Int->Option ((List (Int×Int×Int))×Int)):vm (4,[ah a,ah b,ah c,ah d],[0,1,2,3]) 2 (ah b) (ah c) (ah d) 0 0 g e f 3=g 3:=by
 unfold vm
 simp[zP,yk]
theorem q5(f e:Int->Option ((List (Int×Int×Int))×Int)):qC (4,[ah a,ah b,ah c,ah d],[0,1,2,3]) 2 1 3 (ah b) (ah c) (ah d) f e 0=zk (vm (4,[ah a,ah b,ah c,ah d],[0,1,2,3]) 2 (ah b) (ah c) (ah d) 0 0 f e) (zi 12) 0:=by
 unfold qC
 generalize vm=B
 simp[ae,zP,yk]
theorem Be(ha:Nr 1000 a)(hb:Nr 1000 b)(hc:Nr 1000 c)(hd:Nr 1000 d)(f e:Int->Option ((List (Int×Int×Int))×Int)):qC (4,[ah a,ah b,ah c,ah d],[0,1,2,3]) 2 1 3 (ah b) (ah c) (ah d) f e 0=if (decide (0<=zf b c a)&&decide (0<=zf c d a)&&decide (0<=zf d b a))=true then f 3 else e 1:=by
 rw[q5,zF,ze,Br ha hb hc hd]
 by_cases h1:zf b c a<0
 .have:¬0<=zf b c a:=by omega
  simp only[h1,this,dQ,dR,eW,aV,cK]
 rw[aD h1,ze,Bs ha hb hc hd]
 by_cases h2:zf c d a<0
 .have:¬0<=zf c d a:=by omega
  simp only[h2,this,dQ,dR,eW,Bool.and_false,aV,cK]
 rw[aD h2,ze,Bt ha hb hc hd]
 by_cases g:zf d b a<0
 .have:¬0<=zf d b a:=by omega
  simp only[g,this,dQ,dR,eW,Bool.and_false,aV,cK]
 rw[aD g,ze,Bu,aG]
 simp only[aF,aC]
 omega
theorem Bf(f e:Int->Option ((List (Int×Int×Int))×Int)):qC (4,[ah a,ah b,ah c,ah d],[0,1,2,3]) 2 1 3 (ah b) (ah c) (ah d) f e 1=e 2:=by
 unfold qC
 simp[ae,zP,yk]
theorem Bg(f e:Int->Option ((List (Int×Int×Int))×Int)):qC (4,[ah a,ah b,ah c,ah d],[0,1,2,3]) 2 1 3 (ah b) (ah c) (ah d) f e 2=e 3:=by
 unfold qC
 simp[ae,zP,yk]
theorem Bh(f e:Int->Option ((List (Int×Int×Int))×Int)):qC (4,[ah a,ah b,ah c,ah d],[0,1,2,3]) 2 1 3 (ah b) (ah c) (ah d) f e 3=e 4:=by
 unfold qC
 simp[ae,zP,yk]
theorem Bi(f e:Int->Option ((List (Int×Int×Int))×Int)):qC (4,[ah a,ah b,ah c,ah d],[0,1,2,3]) 2 1 3 (ah b) (ah c) (ah d) f e 4=some ([(1,2,3),(0,1,3)],0):=by
 unfold qC
 simp[ae,zP,yk,Gd,app]
theorem Ht{s:Int}(f:jZ (ah b) (ah c) (ah d)=some s)(e:Int->Option ((List (Int×Int×Int))×Int)):fU (4,[ah a,ah b,ah c,ah d],[0,1,2,3]) e 2=if s<=0 then e 3 else zk (qC (4,[ah a,ah b,ah c,ah d],[0,1,2,3]) 2 1 3 (ah b) (ah c) (ah d) e) (zi 12) 0:=by
 unfold fU
 generalize qC=B
 simp[ae,zP,yk,f]
theorem OL(ha:Nr 1000 a)(hb:Nr 1000 b)(hc:Nr 1000 c)(hd:Nr 1000 d)(f:Int->Option ((List (Int×Int×Int))×Int)):fU (4,[ah a,ah b,ah c,ah d],[0,1,2,3]) f 2=if wN b c d a=true then some ([(1,2,3),(0,1,3)],0)else f 3:=by
 rw[Ht (yZ hb hc hd),zF]
 unfold wN
 by_cases h:zf b c d<=0
 .have h2:¬0<zf b c d:=by omega
  rw[aG (dC.mpr h)]
  simp only[h2,dR,eW,aV,cK]
 rw[aD (λe=>h (dC.mp e)),show decide (0<zf b c d)=true from aH Oz,Bool.true_and]
 have e:=Be ha hb hc hd f
 generalize (decide (0<=zf b c a)&&decide (0<=zf c d a)&&decide (0<=zf d b a))=t at *
 rw[ze,e]
 cases t
 case true=>rw[aG rfl,aD Uz]
 rw[aD Uz,aG Uz]
 rw[ze,Bf]
 rw[ze,Bg]
 rw[ze,Bh]
 rw[ze,Bi]
theorem OM(e:Int->Option ((List (Int×Int×Int))×Int)):fU (4,[ah a,ah b,ah c,ah d],[0,1,2,3]) e 3=some ([(2,3,0),(0,1,2)],0):=by
 unfold fU
 generalize qC=B
 simp[ae,zP,yk,Gd,app]
theorem OE{l:List (Rat×Rat)}(g:(Int×(List (Rat×Rat))×List Int)->Option ((List (Int×Int×Int))×Int)):qy [ah a,ah b,ah c,ah d] g (0,l,[])=g (1,l,[0]):=by
 unfold qy
 generalize fU=B
 simp[zP,yk,app]
theorem OF{l:List (Rat×Rat)}(g:(Int×(List (Rat×Rat))×List Int)->Option ((List (Int×Int×Int))×Int)):qy [ah a,ah b,ah c,ah d] g (1,l,[0])=g (2,l,[0,1]):=by
 unfold qy
 generalize fU=B
 simp[zP,yk,app]
theorem OG{l:List (Rat×Rat)}(g:(Int×(List (Rat×Rat))×List Int)->Option ((List (Int×Int×Int))×Int)):qy [ah a,ah b,ah c,ah d] g (2,l,[0,1])=g (3,l,[0,1,2]):=by
 unfold qy
 generalize fU=B
 simp[zP,yk,app]
theorem OH{l:List (Rat×Rat)}(g:(Int×(List (Rat×Rat))×List Int)->Option ((List (Int×Int×Int))×Int)):qy [ah a,ah b,ah c,ah d] g (3,l,[0,1,2])=g (4,l,[0,1,2,3]):=by
 unfold qy
 generalize fU=B
 simp[zP,yk,app]
theorem OI{l:List (Rat×Rat)}(g:(Int×(List (Rat×Rat))×List Int)->Option ((List (Int×Int×Int))×Int)):qy [ah a,ah b,ah c,ah d] g (4,l,[0,1,2,3])=zk (fU (4,l,[0,1,2,3])) (zi 12) 0:=by
 unfold qy
 generalize fU=B
 simp
theorem tx(ha:Nr 1000 a)(hb:Nr 1000 b)(hc:Nr 1000 c)(hd:Nr 1000 d)(hv:KI a b c d=true):tw [ah a,ah b,ah c,ah d]=some (so a b c d,0):=by
 unfold tw
 rw[zbA ha hb hc hd,hv,aA,aD Uz,zF]
 rw[ze,OE,ze,OF,ze,OG,ze,OH,ze,OI,zF]
 rw[ze,OJ ha hb hc hd,ze,OK ha hb hc hd,ze,OL ha hb hc hd,ze,OM]
 unfold so
 cases wN d a b c
 case true=>rfl
 cases wN a b c d
 case true=>rfl
 cases wN b c d a<;>rfl
end
theorem Xe{x y:Rat}(hx:Sm x)(a:Sm y):Qw [x,y]=some (x+y):=by
 have h0:qF 0 x=some x:=by rw[yE Uz hx,Rat.zero_add]
 have h1:=yE hx a
 unfold Qw
 rw[zF,ze]
 simp[ae,zP,h0]
 rw[ze]
 simp[zP,h1]
 rw[ze]
 simp
theorem mL{x y:Rat}(hx:Sg x)(a:Sg y):Qw [x,y]=some (x+y):=by
 have h0:qF 0 x=some x:=by rw[zhS ⟨by decide,by decide⟩ hx,Rat.zero_add]
 have h1:=zhS hx a
 unfold Qw
 rw[zF,ze]
 simp[ae,zP,h0]
 rw[ze]
 simp[zP,h1]
 rw[ze]
 simp
def yx(t p:Rat×Rat):Rat×Rat:=(t.1*p.1-t.2*p.2,t.2*p.1+t.1*p.2)
structure fZ(t p:Rat×Rat):Prop where
 t1:Sm t.1
 t2:Sm t.2
 p1:Sm p.1
 p2:Sm p.2
 m1:Sm (t.1*p.1)
 m2:Sm (t.2*p.2)
 m3:Sm (t.2*p.1)
 m4:Sm (t.1*p.2)
theorem QF{t p:Rat×Rat}(h:fZ t p):Lw t p=some (yx t p):=by
 unfold Lw
 simp only[xK h.t1 h.p1,xK h.t2 h.p2,xK h.t2 h.p1,xK h.t1 h.p2,aA,vA h.m1 h.m2,yE h.m3 h.m4]
 rfl
theorem jA{t p:Rat×Rat}(h:fZ t p):FP t p=some (yx t p):=by
 unfold FP
 simp only[xK h.t1 h.p1,xK h.t2 h.p2,xK h.t2 h.p1,xK h.t1 h.p2,aA,kJ h.m2,Xe h.m1 h.m2.neg,Xe h.m3 h.m4]
 unfold yx
 rw[Rat.sub_eq_add_neg]
end Go.Proofs.YtocnbjjmmgolfaaGreat
