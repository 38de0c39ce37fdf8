/- zQ law: the plane over whole numbers. -/
/- zQ law: segments over whole numbers. -/
/- zQ law: polygons with four corners. -/
/- zQ law: polygons with four corners. -/
/- zQ law: which polygons with four corners are right (printed by mkLf.py). -/
/- zQ law: both packages find the same polygons with four corners right. -/
/- zQ law: rims. -/
/- Functions as plain definitions (printed by spc.py). -/
import Derived.Test.YtocnbjjmmgolfaaGreatA37
import Derived.Test.YtocnbjjmmgolfaaGreatA38
namespace Go.Proofs.YtocnbjjmmgolfaaGreat
open Go Go.M Go.Proofs.C14
abbrev SmI(n:Int):Prop:=n.natAbs<500000000
theorem sm_int{n:Int}(h:SmI n):Sm (n:Rat):=⟨by show(n:Rat).num.natAbs<_;rw[Rat.num_intCast];exact h,by show(n:Rat).den<_;rw[Rat.den_intCast];omega⟩
def qI(n:Int):Rat:=(n:Rat)
theorem sm_qI{n:Int}(h:SmI n):Sm (qI n):=sm_int h
theorem addI{m n:Int}(hm:SmI m)(hn:SmI n):xn (qI m) (qI n)=some (qI (m+n)):=by rw[yr (sm_qI hm) (sm_qI hn)];unfold qI;push_cast;rfl
theorem subI{m n:Int}(hm:SmI m)(hn:SmI n):subG (qI m) (qI n)=some (qI (m-n)):=by rw[qd (sm_qI hm) (sm_qI hn)];unfold qI;push_cast;rfl
theorem mulI{m n:Int}(hm:SmI m)(hn:SmI n):xg (qI m) (qI n)=some (qI (m*n)):=by rw[yU (sm_qI hm) (sm_qI hn)];unfold qI;push_cast;rfl
theorem negI{m:Int}(hm:SmI m):negG (qI m)=some (qI (-m)):=by rw[xf (sm_qI hm)];unfold qI;push_cast;rfl
theorem signI{m:Int}(hm:SmI m):xe (qI m)=some (zV m 0):=by rw[signG_ok (sm_qI hm)];unfold qI;rw[Rat.num_intCast]
theorem validI{m:Int}(hm:SmI m):yG (qI m)=some true:=validG_ok (sm_qI hm)
theorem cmpQ_int(m n:Int):cmpQ (qI m) (qI n)=zV m n:=by unfold qI;rw[←cmpQ_eq,Rat.num_intCast,Rat.num_intCast,Rat.den_intCast,Rat.den_intCast];simp
theorem cmpI'{m n:Int}(hm:SmI m)(hn:SmI n):zW (qI m) (qI n)=some (zV m n):=by rw[yJ (sm_qI hm) (sm_qI hn),cmpQ_int]
theorem ofI{n:Int}(h:n.natAbs<1000000000):ofG n 1=some (qI n):=by
 unfold ofG qI
 rw[if_pos ⟨h,by decide,by decide⟩,Rat.divInt_eq_div]
 congr 1
 rw[show((1:Int):Rat)=1 from rfl,Rat.div_def]
 grind
theorem q0:(0:Rat)=qI 0:=rfl
def ptQ(p:Int×Int):Rat×Rat:=(qI p.1,qI p.2)
theorem pt1{p:Int×Int}:(ptQ p).1=qI p.1:=rfl
theorem pt2{p:Int×Int}:(ptQ p).2=qI p.2:=rfl
def Nr(N:Nat)(p:Int×Int):Prop:=p.1.natAbs≤N∧p.2.natAbs≤N
def yj(a b:Int×Int):Int×Int:=(a.1-b.1,a.2-b.2)
def zZ(a b:Int×Int):Int:=a.1*b.2-a.2*b.1
def z5(a b:Int×Int):Int:=a.1*b.1+a.2*b.2
def zf(a b c:Int×Int):Int:=zZ (yj b a) (yj c a)
theorem Nr.sub{N M:Nat}{a b:Int×Int}(h:Nr N a)(g:Nr M b):Nr (N+M) (yj a b):=by
 unfold Nr yj at *
 simp only
 omega
theorem ql{N M:Nat}{m n:Int}(h:m.natAbs≤N)(g:n.natAbs≤M):(m*n).natAbs≤N*M:=by rw[Int.natAbs_mul];exact Nat.mul_le_mul h g
theorem Nr.cross{N M:Nat}{a b:Int×Int}(h:Nr N a)(g:Nr M b):(zZ a b).natAbs≤2*(N*M):=by
 have h1:=ql h.1 g.2
 have h2:=ql h.2 g.1
 unfold zZ
 omega
theorem Nr.dot{N M:Nat}{a b:Int×Int}(h:Nr N a)(g:Nr M b):(z5 a b).natAbs≤2*(N*M):=by
 have h1:=ql h.1 g.1
 have h2:=ql h.2 g.2
 unfold z5
 omega
theorem Nr.le{N M:Nat}{a:Int×Int}(h:Nr N a)(g:N≤M):Nr M a:=⟨Nat.le_trans h.1 g,Nat.le_trans h.2 g⟩
theorem Nr.s1{a:Int×Int}(h:Nr 10000 a):SmI a.1:=by have:=h.1;unfold SmI;omega
theorem Nr.s2{a:Int×Int}(h:Nr 10000 a):SmI a.2:=by have:=h.2;unfold SmI;omega
section
variable{a b c d:Int×Int}
theorem z39_int(ha:Nr 10000 a)(hb:Nr 10000 b):z39 (ptQ a) (ptQ b)=some (ptQ (yj a b)):=by
 unfold z39
 simp only[pt1,pt2,subI ha.s1 hb.s1,subI ha.s2 hb.s2,Option.bind_some]
 rfl
theorem z126_int(ha:Nr 10000 a)(hb:Nr 10000 b):z126 (ptQ a) (ptQ b)=some (ptQ (yj a b)):=by
 unfold z126
 simp only[pt1,pt2,subI ha.s1 hb.s1,subI ha.s2 hb.s2,Option.bind_some]
 rfl
theorem z226_int(ha:Nr 10000 a)(hb:Nr 10000 b):z226 (ptQ a) (ptQ b)=some (qI (zZ a b)):=by
 unfold z226
 have h1:=ql ha.1 hb.2
 have h2:=ql ha.2 hb.1
 simp only[pt1,pt2,mulI ha.s1 hb.s2,mulI ha.s2 hb.s1,Option.bind_some]
 rw[subI (by unfold SmI;omega) (by unfold SmI;omega)]
 rfl
theorem z265_int(ha:Nr 10000 a)(hb:Nr 10000 b):z265 (ptQ a) (ptQ b)=some (qI (z5 a b)):=by
 unfold z265
 have h1:=ql ha.1 hb.1
 have h2:=ql ha.2 hb.2
 simp only[pt1,pt2,mulI ha.s1 hb.s1,mulI ha.s2 hb.s2,Option.bind_some]
 rw[addI (by unfold SmI;omega) (by unfold SmI;omega)]
 rfl
theorem xW(ha:Nr 1000 a)(hb:Nr 1000 b)(hc:Nr 1000 c):z164 (ptQ a) (ptQ b) (ptQ c)=some (zV (zf a b c) 0):=by
 unfold z164
 have h1:=(hb.sub ha)
 have h2:=(hc.sub ha)
 have h3:=h1.cross h2
 rw[z39_int (hb.le Uz) (ha.le Uz),Option.bind_some,z39_int (hc.le Uz) (ha.le Uz),Option.bind_some,z226_int (h1.le Uz) (h2.le Uz),Option.bind_some,signI (by unfold SmI;omega),Option.bind_some]
 rfl
end
end Go.Proofs.YtocnbjjmmgolfaaGreat
namespace Go.Proofs.YtocnbjjmmgolfaaGreat
open Go Go.M Go.Proofs.C14
attribute [local irreducible] zd
theorem zp:(i64 0=some 0∧i64 1=some 1∧i64 2=some 2∧i64 3=some 3∧i64 4=some 4)∧i64 5=some 5∧i64 6=some 6∧i64 7=some 7∧i64 8=some 8:=by
 refine⟨⟨?_,?_,?_,?_,?_⟩,?_,?_,?_,?_⟩<;>exact yg Uz
theorem xD{n:Int}:zV n 0=0↔n=0:=by unfold zV;split<;>(try split)<;>omega
theorem cmpI_neg{m n:Int}:zV m n<0↔m<n:=by unfold zV;split<;>(try split)<;>omega
theorem cmpI_pos{m n:Int}:0<zV m n↔n<m:=by unfold zV;split<;>(try split)<;>omega
theorem cmpI_le{m n:Int}:zV m n≤0↔m≤n:=by unfold zV;split<;>(try split)<;>omega
theorem cmpI_cases(m n:Int):zV m n = -1∧m<n∨zV m n=0∧m=n∨zV m n=1∧n<m:=by unfold zV;split<;>(try split)<;>omega
section
variable{a b c d:Int×Int}
theorem z121_two{m n:Int}(hm:m.natAbs<100000000)(hn:n.natAbs<100000000):z121 [qI m,qI n]=some (qI (m+n)):=by
 unfold z121
 have h0:xn (qI 0) (qI m)=some (qI m):=by
  have:=addI (m:=0) (n:=m) Uz (by unfold SmI;omega)
  rw[Int.zero_add]at this
  exact this
 have h1:=addI (m:=m) (n:=n) (by unfold SmI;omega) (by unfold SmI;omega)
 rw[zm,za,q0]
 simp[idx,zp,h0]
 rw[za]
 simp[zp,h1]
 rw[za]
 simp
theorem z259_int(ha:Nr 5000 a)(hb:Nr 5000 b):z259 (ptQ a) (ptQ b)=some (qI (zZ a b)):=by
 unfold z259
 have h1:=ql ha.1 hb.2
 have h2:=ql ha.2 hb.1
 have ga:=ha.le (M:=10000) Uz
 have gb:=hb.le (M:=10000) Uz
 simp only[pt1,pt2,mulI ga.s1 gb.s2,mulI ga.s2 gb.s1,Option.bind_some]
 rw[negI (by unfold SmI;omega),Option.bind_some,z121_two Oz Oz]
 rfl
theorem z257_int(ha:Nr 5000 a)(hb:Nr 5000 b):z257 (ptQ a) (ptQ b)=some (qI (z5 a b)):=by
 unfold z257
 have h1:=ql ha.1 hb.1
 have h2:=ql ha.2 hb.2
 have ga:=ha.le (M:=10000) Uz
 have gb:=hb.le (M:=10000) Uz
 simp only[pt1,pt2,mulI ga.s1 gb.s1,mulI ga.s2 gb.s2,Option.bind_some]
 rw[z121_two Oz Oz]
 rfl
theorem yf(ha:Nr 1000 a)(hb:Nr 1000 b)(hc:Nr 1000 c):z241 (ptQ a) (ptQ b) (ptQ c)=some (zV (zf a b c) 0):=by
 unfold z241
 have h1:=(hb.sub ha)
 have h2:=(hc.sub ha)
 have h3:=h1.cross h2
 rw[z126_int (hb.le Uz) (ha.le Uz),Option.bind_some,z126_int (hc.le Uz) (ha.le Uz),Option.bind_some,z259_int (h1.le Uz) (h2.le Uz),Option.bind_some,signI (by unfold SmI;omega),Option.bind_some]
 rfl
def onI(a b p:Int×Int):Bool:=decide (zf a b p=0)&&decide (z5 (yj a p) (yj b p)≤0)
theorem z267_int(ha:Nr 1000 a)(hb:Nr 1000 b)(hc:Nr 1000 c):z267 (ptQ a) (ptQ b) (ptQ c)=some (onI a b c):=by
 unfold z267 onI
 have h1:=(ha.sub hc)
 have h2:=(hb.sub hc)
 have h3:=h1.dot h2
 rw[yf ha hb hc,Option.bind_some]
 by_cases h:zf a b c=0
 ·rw[if_pos (by simp[xD,h]),z126_int (ha.le Uz) (hc.le Uz),Option.bind_some,z126_int (hb.le Uz) (hc.le Uz),Option.bind_some,z257_int (h1.le Uz) (h2.le Uz),Option.bind_some,signI (by unfold SmI;omega),Option.bind_some]
  simp[h,cmpI_le]
 ·rw[if_neg (by simp[xD,h])]
  simp[h]
def qA(a b c d:Int×Int):Bool:=(decide (zV (zf a b c) 0*zV (zf a b d) 0<0)&&decide (zV (zf c d a) 0*zV (zf c d b) 0<0))||onI a b c||onI a b d||onI c d a||onI c d b
theorem cmpI_abs(m n:Int):(zV m n).natAbs≤1:=by rcases cmpI_cases m n with h|h|h<;>rw[h.1]<;>decide
theorem z242_int(ha:Nr 1000 a)(hb:Nr 1000 b)(hc:Nr 1000 c)(hd:Nr 1000 d):z242 (ptQ a) (ptQ b) (ptQ c) (ptQ d)=some (qA a b c d):=by
 unfold z242 qA
 have e1:=ql (cmpI_abs (zf a b c) 0) (cmpI_abs (zf a b d) 0)
 have e2:=ql (cmpI_abs (zf c d a) 0) (cmpI_abs (zf c d b) 0)
 simp only[yf ha hb hc,yf ha hb hd,yf hc hd ha,yf hc hd hb,z267_int ha hb hc,z267_int ha hb hd,z267_int hc hd ha,z267_int hc hd hb,Option.bind_some]
 rw[yg Oz,yg Oz]
 simp only[Option.bind_some]
 generalize zV (zf a b c) 0*zV (zf a b d) 0=u
 generalize zV (zf c d a) 0*zV (zf c d b) 0=v
 by_cases hu:u<0<;>by_cases hv:v<0<;>cases onI a b c<;>cases onI a b d<;>cases onI c d a<;>simp[hu,hv]
def betwI(n a b c d:Int×Int):Bool:=(decide (z5 n a<z5 n c)&&decide (z5 n a<z5 n d)&&decide (z5 n b<z5 n c)&&decide (z5 n b<z5 n d))||(decide (z5 n c<z5 n a)&&decide (z5 n d<z5 n a)&&decide (z5 n c<z5 n b)&&decide (z5 n d<z5 n b))
theorem z228_int{n:Int×Int}(hn:Nr 2000 n)(ha:Nr 1000 a)(hb:Nr 1000 b)(hc:Nr 1000 c)(hd:Nr 1000 d):z228 (ptQ n) (ptQ a) (ptQ b) (ptQ c) (ptQ d)=some (betwI n a b c d):=by
 unfold z228 betwI
 have ga:=hn.dot ha
 have gb:=hn.dot hb
 have gc:=hn.dot hc
 have gd:=hn.dot hd
 rw[z265_int (hn.le Uz) (ha.le Uz),z265_int (hn.le Uz) (hb.le Uz),z265_int (hn.le Uz) (hc.le Uz),z265_int (hn.le Uz) (hd.le Uz)]
 simp only[Option.bind_some]
 generalize z5 n a=p at *
 generalize z5 n b=q at *
 generalize z5 n c=r at *
 generalize z5 n d=s at *
 have s1:SmI p:=by unfold SmI;omega
 have s2:SmI q:=by unfold SmI;omega
 have s3:SmI r:=by unfold SmI;omega
 have s4:SmI s:=by unfold SmI;omega
 simp only[cmpI' s1 s3,cmpI' s1 s4,cmpI' s2 s3,cmpI' s2 s4,Option.bind_some,cmpI_neg,cmpI_pos]
 by_cases h1:p<r<;>by_cases h2:p<s<;>by_cases h3:q<r<;>simp only[h1,h2,h3,decide_true,decide_false,if_true,if_false,Bool.false_eq_true,Bool.true_and,Bool.false_and,Bool.and_true,Bool.and_false,Bool.false_or,Bool.true_or]<;>by_cases h5:r<p<;>by_cases h6:s<p<;>by_cases h7:r<q<;>by_cases h4:q<s<;>simp[h4,h5,h6,h7]
def ye(a:Int×Int):Int×Int:=(-a.2,a.1)
theorem z227_int(ha:Nr 10000 a):z227 (ptQ a)=some (ptQ (ye a)):=by
 unfold z227
 rw[pt2,negI ha.s2]
 rfl
def xN(a b c d:Int×Int):Bool:= !(betwI (ye (yj b a)) a b c d) && !(betwI (ye (yj d c)) a b c d) && !(betwI (yj b a) a b c d) && !(betwI (yj d c) a b c d) && !(betwI (yj c a) a b c d)
theorem z166_int(ha:Nr 1000 a)(hb:Nr 1000 b)(hc:Nr 1000 c)(hd:Nr 1000 d):z166 (ptQ a) (ptQ b) (ptQ c) (ptQ d)=some (xN a b c d):=by
 unfold z166 xN
 have g1:=hb.sub ha
 have g2:=hd.sub hc
 have g3:=hc.sub ha
 have gt:∀{x:Int×Int},Nr 2000 x→Nr 2000 (ye x):=fun h=>by
  obtain⟨h1,h2⟩:=h
  exact⟨by show(-_:Int).natAbs≤_;omega,h1⟩
 have t1:=gt g1
 have t2:=gt g2
 rw[z39_int (hb.le Uz) (ha.le Uz),z39_int (hd.le Uz) (hc.le Uz),z39_int (hc.le Uz) (ha.le Uz)]
 simp only[Option.bind_some]
 rw[z227_int (g1.le Uz),z227_int (g2.le Uz)]
 simp only[Option.bind_some]
 rw[zm]
 generalize hx1:ye (yj b a)=x1 at *
 generalize hx2:ye (yj d c)=x2 at *
 generalize yj b a=x3 at *
 generalize yj d c=x4 at *
 generalize yj c a=x5 at *
 have f1:=z228_int t1 ha hb hc hd
 have f2:=z228_int t2 ha hb hc hd
 have f3:=z228_int g1 ha hb hc hd
 have f4:=z228_int g2 ha hb hc hd
 have f5:=z228_int g3 ha hb hc hd
 rw[za]
 simp[idx,zp,f1]
 cases betwI x1 a b c d
 case true=>simp
 simp
 rw[za]
 simp[idx,zp,f2]
 cases betwI x2 a b c d
 case true=>simp
 simp
 rw[za]
 simp[idx,zp,f3]
 cases betwI x3 a b c d
 case true=>simp
 simp
 rw[za]
 simp[idx,zp,f4]
 cases betwI x4 a b c d
 case true=>simp
 simp
 rw[za]
 simp[idx,zp,f5]
 cases betwI x5 a b c d
 case true=>simp
 simp
 rw[za]
 simp
end
end Go.Proofs.YtocnbjjmmgolfaaGreat
namespace Go.Proofs.YtocnbjjmmgolfaaGreat
open Go Go.M Go.Proofs.C14
theorem sep_no{A B C D na nb nc nd:Int}(hA:A<0)(hB:0<B)(hC:0<C)(hD:D<0)(hs:B-A=C-D)(hn:B*nc-A*nd=C*nb-D*na) :
  ¬(na<nc∧na<nd∧nb<nc∧nb<nd)∧¬(nc<na∧nd<na∧nc<nb∧nd<nb):=by
 have pos:∀{u v:Int},0<u→0<v→0<u*v:=fun h g=>Int.mul_pos h g
 constructor
 ·rintro⟨h1,h2,h3,h4⟩
  by_cases h:na≤nb
  ·have e1:=pos hB (show 0<nc-nb by omega)
   have e2:=pos (show 0 < -A by omega) (show 0<nd-nb by omega)
   have e3:=Int.mul_nonneg (show 0 ≤ -D by omega) (show 0≤nb-na by omega)
   have:B*(nc-nb) + -A*(nd-nb) + -D*(nb-na)=(B*nc-A*nd-(C*nb-D*na))-(B-A-(C-D))*nb:=by grind
   rw[hn,hs]at this
   simp only[Int.sub_self,Int.zero_mul]at this
   omega
  ·have e1:=pos hB (show 0<nc-na by omega)
   have e2:=pos (show 0 < -A by omega) (show 0<nd-na by omega)
   have e3:=Int.mul_nonneg (show 0≤C by omega) (show 0≤na-nb by omega)
   have:B*(nc-na) + -A*(nd-na)+C*(na-nb)=(B*nc-A*nd-(C*nb-D*na))-(B-A-(C-D))*na:=by grind
   rw[hn,hs]at this
   simp only[Int.sub_self,Int.zero_mul]at this
   omega
 ·rintro⟨h1,h2,h3,h4⟩
  by_cases h:na≤nb
  ·have e1:=pos hB (show 0<na-nc by omega)
   have e2:=pos (show 0 < -A by omega) (show 0<na-nd by omega)
   have e3:=Int.mul_nonneg (show 0≤C by omega) (show 0≤nb-na by omega)
   have:B*(na-nc) + -A*(na-nd)+C*(nb-na) = -(B*nc-A*nd-(C*nb-D*na))+(B-A-(C-D))*na:=by grind
   rw[hn,hs]at this
   simp only[Int.sub_self,Int.zero_mul,Int.neg_zero,Int.add_zero]at this
   omega
  ·have e1:=pos hB (show 0<nb-nc by omega)
   have e2:=pos (show 0 < -A by omega) (show 0<nb-nd by omega)
   have e3:=Int.mul_nonneg (show 0 ≤ -D by omega) (show 0≤na-nb by omega)
   have:B*(nb-nc) + -A*(nb-nd) + -D*(na-nb) = -(B*nc-A*nd-(C*nb-D*na))+(B-A-(C-D))*nb:=by grind
   rw[hn,hs]at this
   simp only[Int.sub_self,Int.zero_mul,Int.neg_zero,Int.add_zero]at this
   omega
theorem mul_neg_iff{m n:Int}(hm:m≠0)(hn:n≠0):zV m 0*zV n 0<0↔(m<0∧0<n)∨(0<m∧n<0):=by
 rcases cmpI_cases m 0 with h|h|h<;>rcases cmpI_cases n 0 with g|g|g<;>rw[h.1,g.1]<;>omega
section
variable{a b c d:Int×Int}
theorem meet_eq(hA:zf a b c≠0)(hB:zf a b d≠0)(hC:zf c d a≠0)(hD:zf c d b≠0):qA a b c d=xN a b c d:=by
 have hs:zf a b d-zf a b c=zf c d a-zf c d b:=by unfold zf zZ yj;grind
 have hn:∀n:Int×Int,zf a b d*z5 n c-zf a b c*z5 n d=zf c d a*z5 n b-zf c d b*z5 n a:=fun n=>by unfold zf zZ yj z5;grind
 have x1:z5 (ye (yj b a)) b=z5 (ye (yj b a)) a:=by unfold ye yj z5;grind
 have x2:z5 (ye (yj b a)) c=z5 (ye (yj b a)) a+zf a b c:=by unfold ye yj z5 zf zZ yj;grind
 have x3:z5 (ye (yj b a)) d=z5 (ye (yj b a)) a+zf a b d:=by unfold ye yj z5 zf zZ yj;grind
 have y1:z5 (ye (yj d c)) d=z5 (ye (yj d c)) c:=by unfold ye yj z5;grind
 have y2:z5 (ye (yj d c)) a=z5 (ye (yj d c)) c+zf c d a:=by unfold ye yj z5 zf zZ yj;grind
 have y3:z5 (ye (yj d c)) b=z5 (ye (yj d c)) c+zf c d b:=by unfold ye yj z5 zf zZ yj;grind
 have hP:qA a b c d=(decide (zV (zf a b c) 0*zV (zf a b d) 0<0)&&decide (zV (zf c d a) 0*zV (zf c d b) 0<0)):=by
  unfold qA onI
  simp[hA,hB,hC,hD]
 rw[hP]
 simp only[mul_neg_iff hA hB,mul_neg_iff hC hD]
 by_cases g1:(zf a b c<0∧0<zf a b d)∨(0<zf a b c∧zf a b d<0)
 ·by_cases g2:(zf c d a<0∧0<zf c d b)∨(0<zf c d a∧zf c d b<0)
  ·have hb:∀n,betwI n a b c d=false:=fun n=>by
    have:¬(z5 n a<z5 n c∧z5 n a<z5 n d∧z5 n b<z5 n c∧z5 n b<z5 n d)∧¬(z5 n c<z5 n a∧z5 n d<z5 n a∧z5 n c<z5 n b∧z5 n d<z5 n b):=by
     rcases g1 with g1|g1
     ·exact sep_no g1.1 g1.2 Oz Oz hs (hn n)
     ·exact sep_no (A:= -zf a b c) (B:= -zf a b d) (C:= -zf c d a) (D:= -zf c d b) Oz Oz Oz Oz Oz (by have:=hn n;grind)
    unfold betwI
    rw[←Bool.not_eq_true]
    simp only[Bool.or_eq_true,Bool.and_eq_true,decide_eq_true_eq,not_or]
    exact⟨fun h=>this.1 ⟨h.1.1.1,h.1.1.2,h.1.2,h.2⟩,fun h=>this.2 ⟨h.1.1.1,h.1.1.2,h.1.2,h.2⟩⟩
   unfold xN
   simp[hb,g1,g2]
  ·have:betwI (ye (yj d c)) a b c d=true:=by
    unfold betwI
    rw[y1,y2,y3]
    simp only[Bool.or_eq_true,Bool.and_eq_true,decide_eq_true_eq]
    omega
   unfold xN
   simp[this,g2]
 ·have:betwI (ye (yj b a)) a b c d=true:=by
   unfold betwI
   rw[x1,x2,x3]
   simp only[Bool.or_eq_true,Bool.and_eq_true,decide_eq_true_eq]
   omega
  unfold xN
  simp[this,g1]
end
end Go.Proofs.YtocnbjjmmgolfaaGreat
namespace Go.Proofs.YtocnbjjmmgolfaaGreat
open Go Go.M Go.Proofs.C14
attribute [local irreducible] zd
section
variable{a b c d:Int×Int}
theorem z163_int(ha:Nr 1000 a)(hb:Nr 1000 b)(hc:Nr 1000 c)(hd:Nr 1000 d):z163 [ptQ a,ptQ b,ptQ c,ptQ d]=some true:=by
 have v:∀{p:Int×Int},Nr 1000 p→yG (qI p.1)=some true∧yG (qI p.2)=some true:=fun h=>⟨validI (h.le (M:=10000) Uz).s1,validI (h.le (M:=10000) Uz).s2⟩
 have va:=v ha
 have vb:=v hb
 have vc:=v hc
 have vd:=v hd
 unfold z163
 rw[zm,za]
 simp[idx,zp,pt1,pt2,va]
 rw[za]
 simp[zp,pt1,pt2,vb]
 rw[za]
 simp[zp,pt1,pt2,vc]
 rw[za]
 simp[zp,pt1,pt2,vd]
 rw[za]
 simp
def qa(a b c d:Int×Int):Int:=zZ a b+zZ b c+zZ c d+zZ d a
def quadR(a b c d:Int×Int):Bool:= !decide (zf a b c=0) && !xN a b c d && !decide (zf b c d=0) && !xN b c d a && !decide (zf c d a=0) && !xN c d a b && !decide (zf d a b=0) && !xN d a b c&&decide (0<qa a b c d)
theorem half_sign{n:Int}(h:n.natAbs<100000000):(xg (qI n) (Rat.divInt 1 2)).bind xe=some (zV n 0):=by
 have hs:Sm (Rat.divInt 1 2):=by decide
 rw[yU (sm_qI (by unfold SmI;omega)) hs,Option.bind_some]
 unfold qI
 have hq:QB 2 n.natAbs ((n:Rat)*Rat.divInt 1 2):=⟨n,by rw[Rat.divInt_eq_div];show(n:Rat)*(1 / 2)*2=n;grind,Nat.le_refl _⟩
 rw[signG_ok (hq.sm ⟨by decide,by decide,by omega⟩)]
 congr 1
 have e:((n:Rat)*Rat.divInt 1 2).num*2=n*((n:Rat)*Rat.divInt 1 2).den:=by
  exact rat_cross (D:=2) (by rw[Rat.divInt_eq_div];show(n:Rat)*(1 / 2)*2=n;grind)
 have hp:=((n:Rat)*Rat.divInt 1 2).den_pos
 generalize ((n:Rat)*Rat.divInt 1 2).num=m at *
 generalize ((n:Rat)*Rat.divInt 1 2).den=k at *
 have hk:(0:Int)<k:=by omega
 rcases cmpI_cases n 0 with g|g|g
 ·have:=Int.mul_neg_of_neg_of_pos g.2 hk
  rw[g.1];unfold zV;rw[if_pos Oz]
 ·rw[g.1];rw[g.2,Int.zero_mul]at e;unfold zV;rw[if_neg Oz,if_neg Oz]
 ·have:=Int.mul_pos g.2 hk
  rw[g.1];unfold zV;rw[if_neg Oz,if_pos Oz]
theorem ofHalf:ofG 1 2=some (Rat.divInt 1 2):=if_pos ⟨by decide,by decide,by decide⟩
theorem z229_0{w x y z:Rat×Rat}:z229 [w,x,y,z] 0=some x∧z229 [w,x,y,z] 1=some y∧z229 [w,x,y,z] 2=some z∧z229 [w,x,y,z] 3=some w:=by
 unfold z229
 simp[idx,zp]
def xp(a b:Int×Int):Int:=(a.1-b.1)*(a.2+b.2)
theorem trap_le(ha:Nr 1000 a)(hb:Nr 1000 b):(xp a b).natAbs≤4000000:=by
 obtain⟨h1,h2⟩:=ha
 obtain⟨h3,h4⟩:=hb
 exact ql (N:=2000) (M:=2000) Oz Oz
theorem trap_sum:xp a b+xp b c+xp c d+xp d a=qa a b c d:=by unfold xp qa zZ;grind
theorem z167_int(ha:Nr 1000 a)(hb:Nr 1000 b)(hc:Nr 1000 c)(hd:Nr 1000 d):z167 [ptQ a,ptQ b,ptQ c,ptQ d]=xg (qI (qa a b c d)) (Rat.divInt 1 2):=by
 have st:∀{p q:Int×Int} {s:Int},Nr 1000 p→Nr 1000 q→s.natAbs≤20000000→subG (qI p.1) (qI q.1)=some (qI (p.1-q.1))∧xn (qI p.2) (qI q.2)=some (qI (p.2+q.2))∧xg (qI (p.1-q.1)) (qI (p.2+q.2))=some (qI (xp p q))∧xn (qI s) (qI (xp p q))=some (qI (s+xp p q)):=fun{p q s} h g hs=>by
  have ht:=trap_le h g
  obtain⟨h1,h2⟩:=h
  obtain⟨h3,h4⟩:=g
  exact⟨subI (by unfold SmI;omega) (by unfold SmI;omega),addI (by unfold SmI;omega) (by unfold SmI;omega),mulI (by unfold SmI;omega) (by unfold SmI;omega),addI (by unfold SmI;omega) (by unfold SmI;omega)⟩
 have t1:=trap_le ha hb
 have t2:=trap_le hb hc
 have t3:=trap_le hc hd
 have t4:=trap_le hd ha
 obtain⟨f1,f2,f3,f4⟩:=st (s:=0) ha hb Oz
 obtain⟨g1,g2,g3,g4⟩:=st (s:=0+xp a b) hb hc Oz
 obtain⟨h1,h2,h3,h4⟩:=st (s:=0+xp a b+xp b c) hc hd Oz
 obtain⟨i1,i2,i3,i4⟩:=st (s:=0+xp a b+xp b c+xp c d) hd ha Oz
 rw[show qa a b c d=0+xp a b+xp b c+xp c d+xp d a by rw[←trap_sum,Int.zero_add]]
 generalize hz:(0:Int)+xp a b=s1 at *
 generalize s1+xp b c=s2 at *
 generalize s2+xp c d=s3 at *
 generalize s3+xp d a=s4 at *
 unfold z167
 rw[zm,za,q0]
 simp[idx,zp,pt1,pt2,z229_0,f1,f2,f3,f4]
 rw[za]
 simp[zp,pt1,pt2,z229_0,g1,g2,g3,g4]
 rw[za]
 simp[zp,pt1,pt2,z229_0,h1,h2,h3,h4]
 rw[za]
 simp[zp,pt1,pt2,z229_0,i1,i2,i3,i4]
 rw[za]
 simp[ofHalf]
end
end Go.Proofs.YtocnbjjmmgolfaaGreat
namespace Go.Proofs.YtocnbjjmmgolfaaGreat
open Go Go.M Go.Proofs.C14
set_option linter.unusedSimpArgs false
attribute [local irreducible] zd
section
variable{a b c d:Int×Int}
theorem zy:i64 (-1)=some (-1)∧i64 (-2)=some (-2)∧i64 (-3)=some (-3)∧i64 (-4)=some (-4):=by
 refine⟨?_,?_,?_,?_⟩<;>exact yg Uz
theorem area_le(ha:Nr 1000 a)(hb:Nr 1000 b)(hc:Nr 1000 c)(hd:Nr 1000 d):(qa a b c d).natAbs<100000000:=by
 have h1:=ha.cross hb
 have h2:=hb.cross hc
 have h3:=hc.cross hd
 have h4:=hd.cross ha
 unfold qa
 omega
theorem area_sum:0+zZ a b+zZ b c+zZ c d+zZ d a=qa a b c d:=by unfold qa;omega
theorem z243_int(ha:Nr 1000 a)(hb:Nr 1000 b)(hc:Nr 1000 c)(hd:Nr 1000 d):z243 [ptQ a,ptQ b,ptQ c,ptQ d]=xg (qI (qa a b c d)) (Rat.divInt 1 2):=by
 have h1:=ha.cross hb
 have h2:=hb.cross hc
 have h3:=hc.cross hd
 have h4:=hd.cross ha
 have f1:=z259_int (ha.le (M:=5000) Uz) (hb.le (M:=5000) Uz)
 have f2:=z259_int (hb.le (M:=5000) Uz) (hc.le (M:=5000) Uz)
 have f3:=z259_int (hc.le (M:=5000) Uz) (hd.le (M:=5000) Uz)
 have f4:=z259_int (hd.le (M:=5000) Uz) (ha.le (M:=5000) Uz)
 have g1:=addI (m:=0) (n:=zZ a b) (by unfold SmI;omega) (by unfold SmI;omega)
 have g2:=addI (m:=0+zZ a b) (n:=zZ b c) (by unfold SmI;omega) (by unfold SmI;omega)
 have g3:=addI (m:=0+zZ a b+zZ b c) (n:=zZ c d) (by unfold SmI;omega) (by unfold SmI;omega)
 have g4:=addI (m:=0+zZ a b+zZ b c+zZ c d) (n:=zZ d a) (by unfold SmI;omega) (by unfold SmI;omega)
 rw[←area_sum]
 generalize hz:(0:Int)+zZ a b=s1 at *
 generalize s1+zZ b c=s2 at *
 generalize s2+zZ c d=s3 at *
 generalize s3+zZ d a=s4 at *
 unfold z243
 rw[zm,za,q0]
 simp[idx,zp,zy,f1,g1]
 rw[za]
 simp[zp,zy,f2,g2]
 rw[za]
 simp[zp,zy,f3,g3]
 rw[za]
 simp[zp,zy,f4,g4]
 rw[za]
 simp[ofHalf]
noncomputable def inR(a0:List (Rat×Rat))(x2:Int)(g2:Int→Option Bool):Option Bool:=(zd (fun g9 (x9:Int)=>(if (decide (x9<(a0.length:Int)))=true then((i64 (x9-x2)).bind fun n10=>((i64 (n10+(a0.length:Int))).bind fun n11=>(if (a0.length:Int)=0 then none else(if (decide (1<(Int.tmod n11 (a0.length:Int))))=true then((i64 ((a0.length:Int)-1)).bind fun n12=>(if (decide ((Int.tmod n11 (a0.length:Int))<n12))=true then((idx a0 x2).bind fun x13=>((i64 (x2+1)).bind fun n14=>((idx a0 x9).bind fun x15=>((i64 (x9+1)).bind fun n16=>((qu a0 n14).bind fun r17=>((qu a0 n16).bind fun r18=>((z166 x13 r17 x15 r18).bind fun r19=>(if r19=true then some false else((i64 (x9+1)).bind fun n20=>g9 n20)))))))))else((i64 (x9+1)).bind fun n21=>g9 n21)))else((i64 (x9+1)).bind fun n22=>g9 n22)))))else((i64 (x2+1)).bind fun n23=>g2 n23))) (zb 12) 0)
theorem z92_eq(a0:List (Rat×Rat)):z92 a0 =  (if (decide ((a0.length:Int)<3))=true then some false else(if (decide (12<(a0.length:Int)))=true then some false else((z163 a0).bind fun r1=>(if (!r1)=true then some false else(zd (fun g2 (x2:Int)=>(if (decide (x2<(a0.length:Int)))=true then((idx a0 x2).bind fun x3=>((i64 (x2+1)).bind fun n4=>((i64 (x2+2)).bind fun n5=>((qu a0 n4).bind fun r6=>((qu a0 n5).bind fun r7=>((z164 x3 r6 r7).bind fun r8=>(if (decide (r8=0))=true then some false else(inR a0 x2 g2))))))))else((z167 a0).bind fun r24=>((xe r24).bind fun r25=>some (decide (0<r25)))))) (zb 12) 0))))):=rfl
theorem inR_0(ha:Nr 1000 a)(hb:Nr 1000 b)(hc:Nr 1000 c)(hd:Nr 1000 d)(g:Int→Option Bool):inR [ptQ a,ptQ b,ptQ c,ptQ d] 0 g=if xN a b c d=true then some false else g 1:=by
 have m:=z166_int ha hb hc hd
 unfold inR
 rw[zm]
 rw[za]
 generalize hG0:zd _ 11=G
 simp[idx,zp,zy,qu]
 rw[←hG0]
 rw[za]
 generalize hG1:zd _ 10=G
 simp[idx,zp,zy,qu]
 rw[←hG1]
 rw[za]
 generalize hG2:zd _ 9=G
 simp[idx,zp,zy,qu,m]
 cases xN a b c d
 case true=>simp
 simp
 rw[←hG2]
 rw[za]
 generalize hG3:zd _ 8=G
 simp[idx,zp,zy,qu]
 rw[←hG3]
 rw[za]
 simp[zp,zy]
theorem inR_1(ha:Nr 1000 a)(hb:Nr 1000 b)(hc:Nr 1000 c)(hd:Nr 1000 d)(g:Int→Option Bool):inR [ptQ a,ptQ b,ptQ c,ptQ d] 1 g=if xN b c d a=true then some false else g 2:=by
 have m:=z166_int hb hc hd ha
 unfold inR
 rw[zm]
 rw[za]
 generalize hG0:zd _ 11=G
 simp[idx,zp,zy,qu]
 rw[←hG0]
 rw[za]
 generalize hG1:zd _ 10=G
 simp[idx,zp,zy,qu]
 rw[←hG1]
 rw[za]
 generalize hG2:zd _ 9=G
 simp[idx,zp,zy,qu]
 rw[←hG2]
 rw[za]
 generalize hG3:zd _ 8=G
 simp[idx,zp,zy,qu,m]
 cases xN b c d a
 case true=>simp
 simp
 rw[←hG3]
 rw[za]
 simp[zp,zy]
theorem inR_2(ha:Nr 1000 a)(hb:Nr 1000 b)(hc:Nr 1000 c)(hd:Nr 1000 d)(g:Int→Option Bool):inR [ptQ a,ptQ b,ptQ c,ptQ d] 2 g=if xN c d a b=true then some false else g 3:=by
 have m:=z166_int hc hd ha hb
 unfold inR
 rw[zm]
 rw[za]
 generalize hG0:zd _ 11=G
 simp[idx,zp,zy,qu,m]
 cases xN c d a b
 case true=>simp
 simp
 rw[←hG0]
 rw[za]
 generalize hG1:zd _ 10=G
 simp[idx,zp,zy,qu]
 rw[←hG1]
 rw[za]
 generalize hG2:zd _ 9=G
 simp[idx,zp,zy,qu]
 rw[←hG2]
 rw[za]
 generalize hG3:zd _ 8=G
 simp[idx,zp,zy,qu]
 rw[←hG3]
 rw[za]
 simp[zp,zy]
theorem inR_3(ha:Nr 1000 a)(hb:Nr 1000 b)(hc:Nr 1000 c)(hd:Nr 1000 d)(g:Int→Option Bool):inR [ptQ a,ptQ b,ptQ c,ptQ d] 3 g=if xN d a b c=true then some false else g 4:=by
 have m:=z166_int hd ha hb hc
 unfold inR
 rw[zm]
 rw[za]
 generalize hG0:zd _ 11=G
 simp[idx,zp,zy,qu]
 rw[←hG0]
 rw[za]
 generalize hG1:zd _ 10=G
 simp[idx,zp,zy,qu,m]
 cases xN d a b c
 case true=>simp
 simp
 rw[←hG1]
 rw[za]
 generalize hG2:zd _ 9=G
 simp[idx,zp,zy,qu]
 rw[←hG2]
 rw[za]
 generalize hG3:zd _ 8=G
 simp[idx,zp,zy,qu]
 rw[←hG3]
 rw[za]
 simp[zp,zy]
theorem z92_int(ha:Nr 1000 a)(hb:Nr 1000 b)(hc:Nr 1000 c)(hd:Nr 1000 d):z92 [ptQ a,ptQ b,ptQ c,ptQ d]=some (quadR a b c d):=by
 have f0:=xW ha hb hc
 have f1:=xW hb hc hd
 have f2:=xW hc hd ha
 have f3:=xW hd ha hb
 have hA:=half_sign (area_le ha hb hc hd)
 have hA2:=z167_int ha hb hc hd
 obtain⟨y,hy,hsy⟩:=zA hA
 rw[hy]at hA2
 unfold quadR
 rw[z92_eq,z163_int ha hb hc hd]
 simp only[zm]
 simp
 rw[za]
 simp[idx,zp,zy,qu,f0,xD,inR_0 ha hb hc hd]
 by_cases s0:zf a b c=0
 ·simp[s0]
 simp[s0]
 cases xN a b c d
 case true=>simp
 simp
 rw[za]
 simp[idx,zp,zy,qu,f1,xD,inR_1 ha hb hc hd]
 by_cases s1:zf b c d=0
 ·simp[s1]
 simp[s1]
 cases xN b c d a
 case true=>simp
 simp
 rw[za]
 simp[idx,zp,zy,qu,f2,xD,inR_2 ha hb hc hd]
 by_cases s2:zf c d a=0
 ·simp[s2]
 simp[s2]
 cases xN c d a b
 case true=>simp
 simp
 rw[za]
 simp[idx,zp,zy,qu,f3,xD,inR_3 ha hb hc hd]
 by_cases s3:zf d a b=0
 ·simp[s3]
 simp[s3]
 cases xN d a b c
 case true=>simp
 simp
 rw[za]
 simp[hA2,hsy,cmpI_pos]
def quadP(a b c d:Int×Int):Bool:= !decide (zf a b c=0) && !qA a b c d && !decide (zf b c d=0) && !qA b c d a && !decide (zf c d a=0) && !decide (zf d a b=0)&&decide (0<qa a b c d)
noncomputable def inP(a0:List (Rat×Rat))(x6:Int)(n13:Int)(g6:Int→Option Bool):Option Bool:=(zd (fun g14 (x14:Int)=>(if (decide (x14<(a0.length:Int)))=true then((i64 (x14+1)).bind fun n15=>(if (a0.length:Int)=0 then none else(if (decide ((Int.tmod n15 (a0.length:Int))≠x6))=true then(if (a0.length:Int)=0 then none else((idx a0 (Int.tmod x6 (a0.length:Int))).bind fun x16=>((i64 (x6+1)).bind fun n17=>(if (a0.length:Int)=0 then none else((idx a0 (Int.tmod n17 (a0.length:Int))).bind fun x18=>(if (a0.length:Int)=0 then none else((idx a0 (Int.tmod x14 (a0.length:Int))).bind fun x19=>((i64 (x14+1)).bind fun n20=>(if (a0.length:Int)=0 then none else((idx a0 (Int.tmod n20 (a0.length:Int))).bind fun x21=>((z242 x16 x18 x19 x21).bind fun r22=>(if r22=true then some false else((i64 (x14+1)).bind fun n23=>g14 n23)))))))))))))else((i64 (x14+1)).bind fun n24=>g14 n24))))else((i64 (x6+1)).bind fun n25=>g6 n25))) (zb 12) n13)
theorem z194_eq(a0:List (Rat×Rat)):z194 a0 =  (if (decide ((a0.length:Int)<3))=true then some false else(if (decide (12<(a0.length:Int)))=true then some false else(zd (fun g1 (x1:Int)=>(if (decide (x1<(a0.length:Int)))=true then((idx a0 x1).bind fun x2=>((yG x2.1).bind fun r3=>(if (!r3)=true then some false else((yG x2.2).bind fun r4=>(if (!r4)=true then some false else((i64 (x1+1)).bind fun n5=>g1 n5))))))else(zd (fun g6 (x6:Int)=>(if (decide (x6<(a0.length:Int)))=true then(if (a0.length:Int)=0 then none else((idx a0 (Int.tmod x6 (a0.length:Int))).bind fun x7=>((i64 (x6+1)).bind fun n8=>(if (a0.length:Int)=0 then none else((idx a0 (Int.tmod n8 (a0.length:Int))).bind fun x9=>((i64 (x6+2)).bind fun n10=>(if (a0.length:Int)=0 then none else((idx a0 (Int.tmod n10 (a0.length:Int))).bind fun x11=>((z241 x7 x9 x11).bind fun r12=>(if (decide (r12=0))=true then some false else((i64 (x6+2)).bind fun n13=>(inP a0 x6 n13 g6))))))))))))else((z243 a0).bind fun r26=>((xe r26).bind fun r27=>some (decide (0<r27)))))) (zb 12) 0))) (zb 12) 0))):=rfl
theorem inP_0(ha:Nr 1000 a)(hb:Nr 1000 b)(hc:Nr 1000 c)(hd:Nr 1000 d)(g:Int→Option Bool):inP [ptQ a,ptQ b,ptQ c,ptQ d] 0 2 g=if qA a b c d=true then some false else g 1:=by
 have m:=z242_int ha hb hc hd
 unfold inP
 rw[zm]
 rw[za]
 simp[idx,zp,zy,m]
 cases qA a b c d
 case true=>simp
 simp
 rw[za]
 simp[idx,zp,zy]
 rw[za]
 simp[zp,zy]
theorem inP_1(ha:Nr 1000 a)(hb:Nr 1000 b)(hc:Nr 1000 c)(hd:Nr 1000 d)(g:Int→Option Bool):inP [ptQ a,ptQ b,ptQ c,ptQ d] 1 3 g=if qA b c d a=true then some false else g 2:=by
 have m:=z242_int hb hc hd ha
 unfold inP
 rw[zm]
 rw[za]
 simp[idx,zp,zy,m]
 cases qA b c d a
 case true=>simp
 simp
 rw[za]
 simp[zp,zy]
theorem inP_2(ha:Nr 1000 a)(hb:Nr 1000 b)(hc:Nr 1000 c)(hd:Nr 1000 d)(g:Int→Option Bool):inP [ptQ a,ptQ b,ptQ c,ptQ d] 2 4 g=g 3:=by
 have m:=z242_int hc hd ha hb
 unfold inP
 rw[zm]
 rw[za]
 simp[zp,zy]
theorem inP_3(ha:Nr 1000 a)(hb:Nr 1000 b)(hc:Nr 1000 c)(hd:Nr 1000 d)(g:Int→Option Bool):inP [ptQ a,ptQ b,ptQ c,ptQ d] 3 5 g=g 4:=by
 have m:=z242_int hd ha hb hc
 unfold inP
 rw[zm]
 rw[za]
 simp[zp,zy]
theorem z194_int(ha:Nr 1000 a)(hb:Nr 1000 b)(hc:Nr 1000 c)(hd:Nr 1000 d):z194 [ptQ a,ptQ b,ptQ c,ptQ d]=some (quadP a b c d):=by
 have v:∀{p:Int×Int},Nr 1000 p→yG (qI p.1)=some true∧yG (qI p.2)=some true:=fun h=>⟨validI (h.le (M:=10000) Uz).s1,validI (h.le (M:=10000) Uz).s2⟩
 have v0:=v ha
 have f0:=yf ha hb hc
 have v1:=v hb
 have f1:=yf hb hc hd
 have v2:=v hc
 have f2:=yf hc hd ha
 have v3:=v hd
 have f3:=yf hd ha hb
 have hA:=half_sign (area_le ha hb hc hd)
 have hA2:=z243_int ha hb hc hd
 obtain⟨y,hy,hsy⟩:=zA hA
 rw[hy]at hA2
 unfold quadP
 rw[z194_eq]
 simp only[zm]
 simp
 rw[za]
 simp[idx,zp,zy,pt1,pt2,v0]
 rw[za]
 simp[idx,zp,zy,pt1,pt2,v1]
 rw[za]
 simp[idx,zp,zy,pt1,pt2,v2]
 rw[za]
 simp[idx,zp,zy,pt1,pt2,v3]
 rw[za]
 simp[zp,zy]
 rw[za]
 simp[idx,zp,zy,f0,xD,inP_0 ha hb hc hd]
 by_cases s0:zf a b c=0
 ·simp[s0]
 simp[s0]
 cases qA a b c d
 case true=>simp
 simp
 rw[za]
 simp[idx,zp,zy,f1,xD,inP_1 ha hb hc hd]
 by_cases s1:zf b c d=0
 ·simp[s1]
 simp[s1]
 cases qA b c d a
 case true=>simp
 simp
 rw[za]
 simp[idx,zp,zy,f2,xD,inP_2 ha hb hc hd]
 by_cases s2:zf c d a=0
 ·simp[s2]
 simp[s2]
 rw[za]
 simp[idx,zp,zy,f3,xD,inP_3 ha hb hc hd]
 by_cases s3:zf d a b=0
 ·simp[s3]
 simp[s3]
 rw[za]
 simp[hA2,hsy,cmpI_pos]
end
end Go.Proofs.YtocnbjjmmgolfaaGreat
namespace Go.Proofs.YtocnbjjmmgolfaaGreat
open Go Go.M Go.Proofs.C14
attribute [local irreducible] zd
section
variable{a b c d:Int×Int}
theorem side_rot:zf a b c=zf c a b:=by unfold zf zZ yj;grind
theorem meetP_swap:qA c d a b=qA a b c d:=by
 unfold qA
 generalize decide (zV (zf a b c) 0*zV (zf a b d) 0<0)=x
 generalize decide (zV (zf c d a) 0*zV (zf c d b) 0<0)=y
 generalize onI a b c=p
 generalize onI a b d=q
 generalize onI c d a=r
 generalize onI c d b=s
 cases x<;>cases y<;>cases p<;>cases q<;>cases r<;>cases s<;>rfl
theorem quad_eq:quadP a b c d=quadR a b c d:=by
 unfold quadP quadR
 by_cases h0:zf a b c=0
 ·simp[h0]
 by_cases h1:zf b c d=0
 ·simp[h1]
 by_cases h2:zf c d a=0
 ·simp[h2]
 by_cases h3:zf d a b=0
 ·simp[h3]
 have e1:zf a b d≠0:=by rw[side_rot];exact h3
 have e2:zf c d b≠0:=by rw[side_rot];exact h1
 have e3:zf b c a≠0:=by rw[side_rot];exact h0
 have e4:zf d a c≠0:=by rw[side_rot];exact h2
 have m0:=meet_eq h0 e1 h2 e2
 have m1:=meet_eq h1 e3 h3 e4
 have m2:=meet_eq h2 e2 h0 e1
 have m3:=meet_eq h3 e4 h1 e3
 rw[←m0,←m1,←m2,←m3,meetP_swap,meetP_swap (a:=b) (b:=c) (c:=d) (d:=a)]
 cases qA a b c d<;>cases qA b c d a<;>simp[h0,h1,h2,h3]
end
end Go.Proofs.YtocnbjjmmgolfaaGreat
namespace Go.Proofs.YtocnbjjmmgolfaaGreat
open Go Go.M Go.Proofs.C14
attribute [local irreducible] zd
set_option linter.unusedSimpArgs false
section
variable{a b c d:Int×Int}
theorem z41_int(h:Nr 10000 a):z41 a.1 a.2=some (ptQ a):=by
 obtain⟨h1,h2⟩:=h
 unfold z41
 rw[ofI Oz,ofI Oz]
 rfl
theorem z127_int(h:Nr 10000 a):z127 a.1 a.2=some (ptQ a):=by
 obtain⟨h1,h2⟩:=h
 unfold z127
 rw[ofI Oz,ofI Oz]
 rfl
theorem z93_int{p:Pc}(hp:p.2.2.1=[a,b,c,d])(ha:Nr 1000 a)(hb:Nr 1000 b)(hc:Nr 1000 c)(hd:Nr 1000 d):z93 p=some [ptQ a,ptQ b,ptQ c,ptQ d]:=by
 have fa:=z41_int (ha.le (M:=10000) Uz)
 have fb:=z41_int (hb.le (M:=10000) Uz)
 have fc:=z41_int (hc.le (M:=10000) Uz)
 have fd:=z41_int (hd.le (M:=10000) Uz)
 unfold z93
 rw[hp,zm,za]
 generalize hG:zd _ 11=G
 simp[idx,zp,fa,app]
 rw[←hG,za];clear hG
 generalize hG:zd _ 10=G
 simp[idx,zp,fb,app]
 rw[←hG,za];clear hG
 generalize hG:zd _ 9=G
 simp[idx,zp,fc,app]
 rw[←hG,za];clear hG
 generalize hG:zd _ 8=G
 simp[idx,zp,fd,app]
 rw[←hG,za]
 simp
theorem z154_int{p:Pc}(hp:p.2.2.1=[a,b,c,d])(ha:Nr 1000 a)(hb:Nr 1000 b)(hc:Nr 1000 c)(hd:Nr 1000 d):z154 p=some [ptQ a,ptQ b,ptQ c,ptQ d]:=by
 have fa:=z127_int (ha.le (M:=10000) Uz)
 have fb:=z127_int (hb.le (M:=10000) Uz)
 have fc:=z127_int (hc.le (M:=10000) Uz)
 have fd:=z127_int (hd.le (M:=10000) Uz)
 unfold z154
 rw[hp,zm,za]
 generalize hG:zd _ 11=G
 simp[idx,zp,fa,app]
 rw[←hG,za];clear hG
 generalize hG:zd _ 10=G
 simp[idx,zp,fb,app]
 rw[←hG,za];clear hG
 generalize hG:zd _ 9=G
 simp[idx,zp,fc,app]
 rw[←hG,za];clear hG
 generalize hG:zd _ 8=G
 simp[idx,zp,fd,app]
 rw[←hG,za]
 simp
end
end Go.Proofs.YtocnbjjmmgolfaaGreat
namespace Go.Proofs.YtocnbjjmmgolfaaGreat
open Go Go.M Go.Proofs.C14
noncomputable section
set_option linter.unusedVariables false
def qk(x2:Int×(List V)×List Int)(x5:Int)(x30 x33 x34:Rat×Rat)(x35 x37:Int)(g5 g35:Int→Option ((List (Int×Int×Int))×Int))(g43:(Int)→Option ((List (Int×Int×Int))×Int))(x43:Int):Option ((List (Int×Int×Int))×Int):=(if (decide (x43<([x30,x33,x34].length:Int)))=true then((idx [x30,x33,x34] x43).bind fun x44=>((idx [x30,x33,x34] x43).bind fun x45=>((i64 (x43+1)).bind fun n46=>(if 3=0 then none else((idx [x30,x33,x34] (Int.tmod n46 3)).bind fun x47=>((idx [x30,x33,x34] (Int.tmod n46 3)).bind fun x48=>((idx x2.2.1 x37).bind fun x49=>((z241 x45 x48 x49).bind fun r50=>(if (decide (r50<0))=true then((i64 (x35+1)).bind fun n51=>g35 n51)else((i64 (x43+1)).bind fun n52=>g43 n52))))))))))else((i64 (x5+1)).bind fun n53=>g5 n53))
def xc(x2:Int×(List V)×List Int)(x5 x25 x29:Int)(x30 x33 x34:Rat×Rat)(g5:Int→Option ((List (Int×Int×Int))×Int))(g35:(Int)→Option ((List (Int×Int×Int))×Int))(x35:Int):Option ((List (Int×Int×Int))×Int):=(if (decide (x35<(x2.2.2.length:Int)))=true then((idx x2.2.2 x35).bind fun x36=>((idx x2.2.2 x35).bind fun x37=>(if (decide (x37=x25))=true then((i64 (x35+1)).bind fun n38=>g35 n38)else(if (decide (x37=x29))=true then((i64 (x35+1)).bind fun n39=>g35 n39)else((idx x2.2.2 x5).bind fun x40=>((idx x2.2.2 x5).bind fun x41=>(if (decide (x37=x41))=true then((i64 (x35+1)).bind fun n42=>g35 n42)else(zd (qk x2 x5 x30 x33 x34 x35 x37 g5 g35) (zb 12) 0))))))))else((i64 (x5-1)).bind fun n54=>((i64 (n54+(x2.2.2.length:Int))).bind fun n55=>(if (x2.2.2.length:Int)=0 then none else((idx x2.2.2 (Int.tmod n55 (x2.2.2.length:Int))).bind fun x56=>((idx x2.2.2 (Int.tmod n55 (x2.2.2.length:Int))).bind fun x57=>((i64 (x5+1)).bind fun n58=>((i64 (n58+(x2.2.2.length:Int))).bind fun n59=>(if (x2.2.2.length:Int)=0 then none else((idx x2.2.2 (Int.tmod n59 (x2.2.2.length:Int))).bind fun x60=>((idx x2.2.2 (Int.tmod n59 (x2.2.2.length:Int))).bind fun x61=>((idx x2.2.2 x5).bind fun x62=>((idx x2.2.2 x5).bind fun x63=>((i64 (x5+1)).bind fun n64=>((delZ x2.2.2 x5 n64).bind fun l65=>(if (decide (3<(l65.length:Int)))=true then none else((app ([]:List (Int×Int×Int)) [(x57,x63,x61)]).bind fun l66=>(if (decide (3<(l65.length:Int)))=true then(zd (fun g67 (x67:Int)=>((i64 ((l65.length:Int)-1)).bind fun n68=>(if (decide (x67<n68))=true then((i64 (x67-1)).bind fun n69=>((i64 (n69+(l65.length:Int))).bind fun n70=>(if (l65.length:Int)=0 then none else((idx l65 (Int.tmod n70 (l65.length:Int))).bind fun x71=>((i64 (x67+1)).bind fun n72=>((i64 (n72+(l65.length:Int))).bind fun n73=>(if (l65.length:Int)=0 then none else((idx l65 (Int.tmod n73 (l65.length:Int))).bind fun x74=>((idx x2.2.1 x71).bind fun x75=>((idx l65 x67).bind fun x76=>((idx x2.2.1 x76).bind fun x77=>((idx x2.2.1 x74).bind fun x78=>((z241 x75 x77 x78).bind fun r79=>(if (decide (r79≤0))=true then((i64 (x67+1)).bind fun n80=>g67 n80)else((i64 (x67-1)).bind fun n81=>((i64 (n81+(l65.length:Int))).bind fun n82=>(if (l65.length:Int)=0 then none else((idx l65 (Int.tmod n82 (l65.length:Int))).bind fun x83=>((i64 (x67+1)).bind fun n84=>((i64 (n84+(l65.length:Int))).bind fun n85=>(if (l65.length:Int)=0 then none else((idx l65 (Int.tmod n85 (l65.length:Int))).bind fun x86=>((idx x2.2.1 x83).bind fun x87=>((idx l65 x67).bind fun x88=>((idx x2.2.1 x88).bind fun x89=>((idx x2.2.1 x86).bind fun x90=>(zd (fun g91 (x91:Int)=>(if (decide (x91<(l65.length:Int)))=true then((idx l65 x91).bind fun x92=>(if (decide (x92=x83))=true then((i64 (x91+1)).bind fun n93=>g91 n93)else(if (decide (x92=x86))=true then((i64 (x91+1)).bind fun n94=>g91 n94)else((idx l65 x67).bind fun x95=>(if (decide (x92=x95))=true then((i64 (x91+1)).bind fun n96=>g91 n96)else(zd (fun g97 (x97:Int)=>(if (decide (x97<([x87,x89,x90].length:Int)))=true then((idx [x87,x89,x90] x97).bind fun x98=>((idx [x87,x89,x90] x97).bind fun x99=>((i64 (x97+1)).bind fun n100=>(if 3=0 then none else((idx [x87,x89,x90] (Int.tmod n100 3)).bind fun x101=>((idx [x87,x89,x90] (Int.tmod n100 3)).bind fun x102=>((idx x2.2.1 x92).bind fun x103=>((z241 x99 x102 x103).bind fun r104=>(if (decide (r104<0))=true then((i64 (x91+1)).bind fun n105=>g91 n105)else((i64 (x97+1)).bind fun n106=>g97 n106))))))))))else((i64 (x67+1)).bind fun n107=>g67 n107))) (zb 12) 0))))))else((i64 (x67-1)).bind fun n108=>((i64 (n108+(l65.length:Int))).bind fun n109=>(if (l65.length:Int)=0 then none else((idx l65 (Int.tmod n109 (l65.length:Int))).bind fun x110=>((i64 (x67+1)).bind fun n111=>((i64 (n111+(l65.length:Int))).bind fun n112=>(if (l65.length:Int)=0 then none else((idx l65 (Int.tmod n112 (l65.length:Int))).bind fun x113=>((idx l65 x67).bind fun x114=>((i64 (x67+1)).bind fun n115=>none)))))))))))) (zb 12) 0)))))))))))))))))))))))))))else((i64 (x67-1)).bind fun n116=>((i64 (n116+(l65.length:Int))).bind fun n117=>(if (l65.length:Int)=0 then none else((idx l65 (Int.tmod n117 (l65.length:Int))).bind fun x118=>((i64 (x67+1)).bind fun n119=>((i64 (n119+(l65.length:Int))).bind fun n120=>(if (l65.length:Int)=0 then none else((idx l65 (Int.tmod n120 (l65.length:Int))).bind fun x121=>((idx l65 x67).bind fun x122=>((i64 (x67+1)).bind fun n123=>none))))))))))))) (zb 12) 0)else(if 3≤(l65.length:Int)then((idx l65 0).bind fun x124=>((idx l65 1).bind fun x125=>((idx l65 2).bind fun x126=>((app l66 [(x124,x125,x126)]).bind fun l127=>some (l127,0)))))else none)))))))))))))))))))
def pc5(x2:Int×(List V)×List Int)(g5:(Int)→Option ((List (Int×Int×Int))×Int))(x5:Int):Option ((List (Int×Int×Int))×Int):=((i64 ((x2.2.2.length:Int)-1)).bind fun n6=>(if (decide (x5<n6))=true then((i64 (x5-1)).bind fun n7=>((i64 (n7+(x2.2.2.length:Int))).bind fun n8=>(if (x2.2.2.length:Int)=0 then none else((idx x2.2.2 (Int.tmod n8 (x2.2.2.length:Int))).bind fun x9=>((idx x2.2.2 (Int.tmod n8 (x2.2.2.length:Int))).bind fun x10=>((i64 (x5+1)).bind fun n11=>((i64 (n11+(x2.2.2.length:Int))).bind fun n12=>(if (x2.2.2.length:Int)=0 then none else((idx x2.2.2 (Int.tmod n12 (x2.2.2.length:Int))).bind fun x13=>((idx x2.2.2 (Int.tmod n12 (x2.2.2.length:Int))).bind fun x14=>((idx x2.2.1 x10).bind fun x15=>((idx x2.2.2 x5).bind fun x16=>((idx x2.2.2 x5).bind fun x17=>((idx x2.2.1 x17).bind fun x18=>((idx x2.2.1 x14).bind fun x19=>((z241 x15 x18 x19).bind fun r20=>(if (decide (r20≤0))=true then((i64 (x5+1)).bind fun n21=>g5 n21)else((i64 (x5-1)).bind fun n22=>((i64 (n22+(x2.2.2.length:Int))).bind fun n23=>(if (x2.2.2.length:Int)=0 then none else((idx x2.2.2 (Int.tmod n23 (x2.2.2.length:Int))).bind fun x24=>((idx x2.2.2 (Int.tmod n23 (x2.2.2.length:Int))).bind fun x25=>((i64 (x5+1)).bind fun n26=>((i64 (n26+(x2.2.2.length:Int))).bind fun n27=>(if (x2.2.2.length:Int)=0 then none else((idx x2.2.2 (Int.tmod n27 (x2.2.2.length:Int))).bind fun x28=>((idx x2.2.2 (Int.tmod n27 (x2.2.2.length:Int))).bind fun x29=>((idx x2.2.1 x25).bind fun x30=>((idx x2.2.2 x5).bind fun x31=>((idx x2.2.2 x5).bind fun x32=>((idx x2.2.1 x32).bind fun x33=>((idx x2.2.1 x29).bind fun x34=>(zd (xc x2 x5 x25 x29 x30 x33 x34 g5) (zb 12) 0)))))))))))))))))))))))))))))))))else((i64 (x5-1)).bind fun n128=>((i64 (n128+(x2.2.2.length:Int))).bind fun n129=>(if (x2.2.2.length:Int)=0 then none else((idx x2.2.2 (Int.tmod n129 (x2.2.2.length:Int))).bind fun x130=>((idx x2.2.2 (Int.tmod n129 (x2.2.2.length:Int))).bind fun x131=>((i64 (x5+1)).bind fun n132=>((i64 (n132+(x2.2.2.length:Int))).bind fun n133=>(if (x2.2.2.length:Int)=0 then none else((idx x2.2.2 (Int.tmod n133 (x2.2.2.length:Int))).bind fun x134=>((idx x2.2.2 (Int.tmod n133 (x2.2.2.length:Int))).bind fun x135=>((idx x2.2.2 x5).bind fun x136=>((idx x2.2.2 x5).bind fun x137=>((i64 (x5+1)).bind fun n138=>((delZ x2.2.2 x5 n138).bind fun l139=>(if (decide (3<(l139.length:Int)))=true then none else((app ([]:List (Int×Int×Int)) [(x131,x137,x135)]).bind fun l140=>(if (decide (3<(l139.length:Int)))=true then(zd (fun g141 (x141:Int)=>((i64 ((l139.length:Int)-1)).bind fun n142=>(if (decide (x141<n142))=true then((i64 (x141-1)).bind fun n143=>((i64 (n143+(l139.length:Int))).bind fun n144=>(if (l139.length:Int)=0 then none else((idx l139 (Int.tmod n144 (l139.length:Int))).bind fun x145=>((i64 (x141+1)).bind fun n146=>((i64 (n146+(l139.length:Int))).bind fun n147=>(if (l139.length:Int)=0 then none else((idx l139 (Int.tmod n147 (l139.length:Int))).bind fun x148=>((idx x2.2.1 x145).bind fun x149=>((idx l139 x141).bind fun x150=>((idx x2.2.1 x150).bind fun x151=>((idx x2.2.1 x148).bind fun x152=>((z241 x149 x151 x152).bind fun r153=>(if (decide (r153≤0))=true then((i64 (x141+1)).bind fun n154=>g141 n154)else((i64 (x141-1)).bind fun n155=>((i64 (n155+(l139.length:Int))).bind fun n156=>(if (l139.length:Int)=0 then none else((idx l139 (Int.tmod n156 (l139.length:Int))).bind fun x157=>((i64 (x141+1)).bind fun n158=>((i64 (n158+(l139.length:Int))).bind fun n159=>(if (l139.length:Int)=0 then none else((idx l139 (Int.tmod n159 (l139.length:Int))).bind fun x160=>((idx x2.2.1 x157).bind fun x161=>((idx l139 x141).bind fun x162=>((idx x2.2.1 x162).bind fun x163=>((idx x2.2.1 x160).bind fun x164=>(zd (fun g165 (x165:Int)=>(if (decide (x165<(l139.length:Int)))=true then((idx l139 x165).bind fun x166=>(if (decide (x166=x157))=true then((i64 (x165+1)).bind fun n167=>g165 n167)else(if (decide (x166=x160))=true then((i64 (x165+1)).bind fun n168=>g165 n168)else((idx l139 x141).bind fun x169=>(if (decide (x166=x169))=true then((i64 (x165+1)).bind fun n170=>g165 n170)else(zd (fun g171 (x171:Int)=>(if (decide (x171<([x161,x163,x164].length:Int)))=true then((idx [x161,x163,x164] x171).bind fun x172=>((idx [x161,x163,x164] x171).bind fun x173=>((i64 (x171+1)).bind fun n174=>(if 3=0 then none else((idx [x161,x163,x164] (Int.tmod n174 3)).bind fun x175=>((idx [x161,x163,x164] (Int.tmod n174 3)).bind fun x176=>((idx x2.2.1 x166).bind fun x177=>((z241 x173 x176 x177).bind fun r178=>(if (decide (r178<0))=true then((i64 (x165+1)).bind fun n179=>g165 n179)else((i64 (x171+1)).bind fun n180=>g171 n180))))))))))else((i64 (x141+1)).bind fun n181=>g141 n181))) (zb 12) 0))))))else((i64 (x141-1)).bind fun n182=>((i64 (n182+(l139.length:Int))).bind fun n183=>(if (l139.length:Int)=0 then none else((idx l139 (Int.tmod n183 (l139.length:Int))).bind fun x184=>((i64 (x141+1)).bind fun n185=>((i64 (n185+(l139.length:Int))).bind fun n186=>(if (l139.length:Int)=0 then none else((idx l139 (Int.tmod n186 (l139.length:Int))).bind fun x187=>((idx l139 x141).bind fun x188=>((i64 (x141+1)).bind fun n189=>none)))))))))))) (zb 12) 0)))))))))))))))))))))))))))else((i64 (x141-1)).bind fun n190=>((i64 (n190+(l139.length:Int))).bind fun n191=>(if (l139.length:Int)=0 then none else((idx l139 (Int.tmod n191 (l139.length:Int))).bind fun x192=>((i64 (x141+1)).bind fun n193=>((i64 (n193+(l139.length:Int))).bind fun n194=>(if (l139.length:Int)=0 then none else((idx l139 (Int.tmod n194 (l139.length:Int))).bind fun x195=>((idx l139 x141).bind fun x196=>((i64 (x141+1)).bind fun n197=>none))))))))))))) (zb 12) 0)else(if 3≤(l139.length:Int)then((idx l139 0).bind fun x198=>((idx l139 1).bind fun x199=>((idx l139 2).bind fun x200=>((app l140 [(x198,x199,x200)]).bind fun l201=>some (l201,0)))))else none))))))))))))))))))))
def pc2(a0:List V)(g2:(Int×(List V)×List Int)→Option ((List (Int×Int×Int))×Int))(x2:Int×(List V)×List Int):Option ((List (Int×Int×Int))×Int):=(if (decide (x2.1<(a0.length:Int)))=true then((app x2.2.2 [x2.1]).bind fun l3=>((i64 (x2.1+1)).bind fun n4=>g2 (n4,x2.2.1,l3)))else(if (decide (3<(x2.2.2.length:Int)))=true then(zd (pc5 x2) (zb 12) 0)else none))
def z263(a0:List V):Option ((List (Int×Int×Int))×Int):=((z194 a0).bind fun r1=>(if (!r1)=true then some ([],1)else(zd (pc2 a0) (zb 12) (0,a0,[]))))
def T263c:=zj T316c 263 ⟨[S38],(.tup S271 i6),43486500,fun x=>z263 x⟩
theorem t263:ConOK T263c:=cn [(263,[{frz:=[],cst:=[],vars:=[],objs:=[],own:=[],ts:=[],fuel:=2,un:=true},hi [] [4,5] [(6,false,[.hole])] [] [] [i6] 12]),(285,[hi [] [3,9] [(10,false,[.hole])] [(0,[.hole,.own 0])] [⟨.o 0 1,3,1,i6⟩] [i6,S38,S3] 12]),(286,[hi [] [0,1,5,6,7,52,53] [(54,false,[.hole])] [] [] [i6] 12,hi [] [9,54,78] [(79,false,[.hole])] [] [] [i6] 12]),(308,[{frz:=[],cst:=[],vars:=[],objs:=[],own:=[],ts:=[],fuel:=1,un:=true}])] [43486500,1113420,7631,5,2] t316
end
end Go.Proofs.YtocnbjjmmgolfaaGreat
