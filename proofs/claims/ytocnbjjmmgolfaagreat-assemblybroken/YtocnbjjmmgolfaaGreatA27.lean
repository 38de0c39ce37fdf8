/- Plain law: which pieces and fits are right. -/
import Derived.Test.YtocnbjjmmgolfaaGreatA26
import Derived.Test.YtocnbjjmmgolfaaGreatA12
import Derived.Test.YtocnbjjmmgolfaaGreatA25
set_option linter.unusedSimpArgs false
set_option linter.unusedVariables false
set_option linter.unusedSectionVars false
namespace Go.Proofs.YtocnbjjmmgolfaaGreat
open Go Go.M Go.Proofs.C14
theorem pQ{x:Rat}:x.num<0↔x<0:=by
 have:= @Rat.num_nonneg x
 constructor
 .intro h;exact Rat.not_le.mp λg=>absurd (this.mpr g) Oz
 .intro h;exact cX λg=>absurd (this.mp Oz) (Rat.not_le.mpr h)
def Fh(x:Rat):Int:=yz x.num 0
theorem Kz{x:Rat}(h:Sm x):qA x=some (Fh x):=Yy h
theorem ei{x:Rat}:Fh x<0↔x<0:=by unfold Fh;rw[kG,pQ]
theorem OU{x:Rat}:Fh x=0↔x=0:=by unfold Fh;rw[kH,Rat.num_eq_zero]
theorem iz{x:Rat}:0<Fh x↔0<x:=by
 have h1:= @ei x
 have h2:= @OU x
 constructor
 .intro h
  rcases(Rat.le_total:x<=0\/0<=x)with g|g
  .have:x<0\/x=0:=by
    by_cases e:x=0
    .exact .inr e
    .left;grind
   rcases this with e|e
   .have:=h1.mpr e;omega
   .have:=h2.mpr e;omega
  .have:x≠0:=λe=>by have:=h2.mpr e;omega
   grind
 .intro h
  have a:¬Fh x<0:=λq=>by have:=h1.mp q;grind
  have b:¬Fh x=0:=λq=>by have:=h2.mp q;grind
  omega
theorem Af{x y:Rat}:kV x y<=0↔x<=y:=by
 have:= @cN x y
 rw[<-Rat.not_lt,<-this]
 omega
theorem QV.top{d B:Nat}{x:Rat}(h:QV d B x)(hd:0<d):x<=qI (B:Int):=by
 obtain⟨n,hn,hb⟩:=h
 refine Rat.not_lt.mp λhc=>?_
 have a:(0:Rat)<(d:Rat):=by exact_mod_cast hd
 have h1:qI (B:Int)*(d:Rat)<x*(d:Rat):=Rat.mul_lt_mul_of_pos_right hc a
 rw[hn]at h1
 have h2:(((B:Int)*(d:Int):Int):Rat)<(n:Rat):=by
  unfold qI at h1
  push_cast
  push_cast at h1
  exact h1
 have h3:((B:Int)*(d:Int))<n:=by exact_mod_cast h2
 have h4:((d*B:Nat):Int)=(B:Int)*(d:Int):=by push_cast;exact Int.mul_comm ..
 omega
theorem mH{a lo hi:Int}(h1:lo<=a)(h2:a<=hi):Wl a lo hi=some true:=by
 unfold Wl
 rw[aG (aH h1),aH h2]
theorem O3(n:Int)(h:n.natAbs<100000:=by decide):Sm (qI n):=jF (by unfold c7;omega)
theorem rp{m n:Int}(h:m<=n):qI m<=qI n:=by unfold qI;exact_mod_cast h
theorem ru{m n:Int}(h:m<n):qI m<qI n:=by unfold qI;exact_mod_cast h
section
variable{p:Pc}(hp:bm p)
include hp
theorem AU:(∀y∈[p.2.2.2.2.2.1,p.2.2.2.2.2.2.1,p.2.2.2.2.2.2.2.1,p.2.2.2.2.2.2.2.2.1,p.2.2.2.2.2.2.2.2.2],Sm y/\0<=y)/\p.2.2.2.2.2.1<=qI 4/\p.2.2.2.2.2.2.1<=qI 1000/\p.2.2.2.2.2.2.2.1<=qI 1000/\p.2.2.2.2.2.2.2.2.2<=qI 4/\0<p.2.2.2.2.2.2.2.2.1:=by
 have s1:SB 4 2:=⟨by decide,by decide⟩
 have s2:SB 2 10:=⟨by decide,by decide⟩
 have t1:=hp.tol.1.top Uz
 have t2:=hp.light.1.top Uz
 have t3:=hp.heavy.1.top Uz
 have u1:qI 2<=qI 4:=rp Uz
 have u2:qI 10<=qI 1000:=rp Uz
 have b:=hp.light.2
 have d:=hp.heavy.2
 have q0:qI 0=0:=rfl
 have c:qI 0<qI 100:=ru Uz
 have e:qI 1<=qI 4:=rp Uz
 have hf:Sm (Rat.divInt 1 2)/\0<=Rat.divInt 1 2/\Rat.divInt 1 2<=qI 4:=by
  refine⟨by decide,by decide,?_⟩
  have:Rat.divInt 1 2<=qI 1:=by unfold qI;decide
  exact dP this e
 refine⟨λy a=>?_,dP t1 u1,dP t2 u2,dP t3 u2,by rw[hp.rough];exact hf.2.2,by rw[hp.strength];exact c⟩
 simp only[aJ,aY,or_false]at a
 rcases a with rfl|rfl|rfl|rfl|rfl
 .exact⟨hp.tol.1.sm s1,hp.tol.2⟩
 .exact⟨hp.light.1.sm s2,Rat.le_of_lt b⟩
 .exact⟨hp.heavy.1.sm s2,dP (Rat.le_of_lt b) d⟩
 .rw[hp.strength];exact⟨O3 100,Rat.le_of_lt c⟩
 .rw[hp.rough];exact⟨hf.1,hf.2.1⟩
theorem rv:B4 p=some true:=by
 obtain⟨l4,-,-,d,-,-⟩:=qB hp
 have hm:=hp.marks
 have l5:p.2.2.2.2.1.length=4:=by rw[hm];rfl
 have c:∀y∈p.2.2.2.2.1,y=0:=by rw[hm];simp
 have hw:∀{a lo hi:Int},lo<=a->a<=hi->Wl a lo hi=some true:=λh1 h2=>mH h1 h2
 unfold B4
 generalize Wl=W at hw |-
 generalize hlo:(-65536:Int)=lo
 generalize hhi:(65536:Int)=hi
 refine zl 4 (λi x=>x=(i:Int)) (λo=>o=_) Oz rfl ?_ ?_
 .rintro i x g hi rfl hg
  have b:i<p.2.2.1.length:=by omega
  have h:=d _ (aL b)
  obtain⟨h1,h2⟩:=h
  rw[aG (zV b)]
  rw[zu b,aA]
  rw[hw Oz Oz]
  rw[aA,aD Uz]
  rw[hw Oz Oz]
  rw[aA,aD Uz,zo (show i<100000 by omega),aA]
  exact hg _ rfl
 .rintro x g rfl
  rw[aD (by simp only[aC];omega)]
  refine zl 4 (λi x=>x=(i:Int)) (λo=>o=_) Oz rfl ?_ ?_
  .rintro i x g hi rfl hg
   have b:i<p.2.2.2.2.1.length:=by omega
   have h0:p.2.2.2.2.1[i]=0:=c _ (aL b)
   rw[aG (zV b)]
   rw[zu b,aA,h0]
   rw[hw Oz Oz]
   rw[aA,aD Uz,zo (show i<100000 by omega),aA]
   exact hg _ rfl
  .rintro x g rfl
   rw[aD (by simp only[aC];omega),hw hp.id.1 hp.id.2]
   rw[aA,aG rfl]
   rw[hw hp.home.1 hp.home.2]
   rfl
theorem mg:BW p=some 0:=by
 obtain⟨l4,-,k,nr,-,v4⟩:=qB hp
 obtain⟨hn,b,-,c,d,e⟩:=AU hp
 have hm:=hp.marks
 have l5:p.2.2.2.2.1.length=4:=by rw[hm];rfl
 have hz:∀y∈p.2.2.2.2.1,y=0:=by rw[hm];simp
 have w4:=hp.worn
 unfold BW
 rw[rv hp]
 simp only[aA,eJ,aV,cK]
 rw[aD (by simp only[aC];omega),aD (by simp only[aC];omega),aD (by simp only[aC];omega)]
 unfold Iu
 simp only[aA]
 refine zl 5 (λi x=>x=(i:Int)) (λo=>o=_) Oz rfl ?_ ?_
 .rintro i x g hi rfl hg
  have h:=hn _ (aL (show i<[p.2.2.2.2.2.1,p.2.2.2.2.2.2.1,p.2.2.2.2.2.2.2.1,p.2.2.2.2.2.2.2.2.1,p.2.2.2.2.2.2.2.2.2].length from hi))
  rw[aG (aH Oz),zu (show i<[p.2.2.2.2.2.1,p.2.2.2.2.2.2.1,p.2.2.2.2.2.2.2.1,p.2.2.2.2.2.2.2.2.1,p.2.2.2.2.2.2.2.2.2].length from hi)]
  generalize [p.2.2.2.2.2.1,p.2.2.2.2.2.2.1,p.2.2.2.2.2.2.2.1,p.2.2.2.2.2.2.2.2.1,p.2.2.2.2.2.2.2.2.2][i]=y at *
  simp only[aA,gM h.1,Kz h.1,eJ,aV,cK]
  rw[aD (by simp only[aC,ei];exact Rat.not_lt.mpr h.2),zo (show i<100000 by omega)]
  exact hg _ rfl
 .rintro x g rfl
  have j:dh 4 1=some (qI 4):=l8 Uz
  have a:dh 1000 1=some (qI 1000):=l8 Uz
  have st:=(hn _ (show p.2.2.2.2.2.1∈_ by simp)).1
  have sl:=(hn _ (show p.2.2.2.2.2.2.1∈_ by simp)).1
  have sh:=(hn _ (show p.2.2.2.2.2.2.2.1∈_ by simp)).1
  have m:=(hn _ (show p.2.2.2.2.2.2.2.2.1∈_ by simp)).1
  have l:=(hn _ (show p.2.2.2.2.2.2.2.2.2∈_ by simp)).1
  rw[aD Uz]
  simp only[j,a,aA,yW st (O3 4),yW l (O3 4),yW sh (O3 1000),yW sl sh,Kz sl,Kz m,Af,iz,k,v4]
  rw[aG (aH b),aG (aH hp.light.2),aG (aH hp.heavy.2)]
  rw[aD (by simp[d]),aD (by simp[c]),aD (by simp only[aC];have:=iz.mpr e;omega)]
  rfl
end
def Wp(t:Rat×Rat):Bool:=decide (t.1*t.1+t.2*t.2=1)
theorem Kn{d:Nat}{t:Rat×Rat}(hd:Kd d)(h:V2 d 12 t):FI t=some (Wp t)/\Ci t=some (Wp t):=by
 have s:=hd.s0 (B:=12) Uz
 have m1:=h.1.mul h.1
 have m2:=h.2.mul h.2
 have s2:SB (d*d) 288:=by
  have:=eE hd.2 hd.2
  exact⟨Nat.mul_pos hd.1 hd.1,by omega⟩
 have a:=(m1.le (C:=288) Uz).sm s2
 have b:=(m2.le (C:=288) Uz).sm s2
 have c:=(m1.add m2).sm s2
 have e:dh 1 1=some (qI 1):=l8 Uz
 unfold FI Ci
 simp only[gM (h.1.sm s),gM (h.2.sm s),aA,dQ,eJ,aV,cK,xK (h.1.sm s) (h.1.sm s),xK (h.2.sm s) (h.2.sm s),Xe a b,yE a b,e,jG c (O3 1)]
 exact⟨rfl,rfl⟩
def u3(f:Fq):Prop:=∃d,Kd d/\V2 d 1 f.2.2.2.2.2.1/\Wp f.2.2.2.2.2.1=true
def jn(n:Nat)(F:List Fq):Bool:=F.all λf=>decide (0<=f.1/\f.1<f.2.1/\f.2.1<n)
def Qx(f:Fq):Bool:=decide ((0<=f.2.2.1/\f.2.2.1<4)/\(0<=f.2.2.2.1/\f.2.2.2.1<4)/\(1<=f.2.2.2.2.1/\f.2.2.2.2.1<4))
theorem P1{f:Fq}(h:u3 f):FI f.2.2.2.2.2.1=some true/\Ci f.2.2.2.2.2.1=some true:=by
 obtain⟨d,hd,h1,h2⟩:=h
 have:=Kn hd ⟨h1.1.le Uz,h1.2.le Uz⟩
 rw[h2]at this
 exact this
section
variable{n:Nat}{F:List Fq}(hF:F.length<=6)(ht:∀f∈F,u3 f)
include hF ht
theorem zch:tN (n:Int) F=some (jn n F):=by
 unfold tN
 .refine zl F.length (λi x=>x=(i:Int)/\jn n (F.take i)=true) (λo=>o=_) Oz ⟨rfl,rfl⟩ ?_ ?_
  .rintro i x g hi ⟨rfl,a⟩ hg
   rw[aG (zV hi)]
   simp only[zu hi,aA,(P1 (ht _ (aL hi))).1,eJ,aV,cK,zo (show i<100000 by omega),show decide ((0:Int)<=(i:Int))=true from aH Oz]
   by_cases c:0<=F[i].1/\F[i].1<F[i].2.1/\F[i].2.1<n
   .rw[aD (by simp only[aC];omega),aD (by simp only[aC];omega),aD (by simp only[aC];omega)]
    exact hg _ ⟨rfl,Xa hi a (aH c)⟩
   .rw[show jn n F=false from Q4 hi (aX c)]
    by_cases c1:F[i].1<0
    .rw[aG (aH c1)]
    rw[aD (by simp only[aC];omega)]
    by_cases b:F[i].2.1<=F[i].1
    .rw[aG (aH b)]
    rw[aD (by simp only[aC];omega),aG (aH Oz)]
  .rintro x g ⟨rfl,a⟩
   rw[aD Y8]
   rw[bE]at a
   rw[a]
omit ht in
theorem BM{P:List Pc}(hP:P.length=n)(hp:∀p∈P,bm p)(b:jn n F=true):sE P F=some (F.all Qx):=by
 unfold sE
 refine zl F.length (λi x=>x=(i:Int)/\(F.take i).all Qx=true) (λo=>o=_) Oz ⟨rfl,rfl⟩ ?_ ?_
 .rintro i x g hi ⟨rfl,hs⟩ hg
  have h0:=cO (List.all_eq_true.mp b _ (aL hi))
  obtain⟨pa,d,h⟩:=zaG (l:=P) h0.1 Oz
  obtain⟨pb,e,j⟩:=zaG (l:=P) (a:=F[i].2.1) Oz Oz
  have la:=(qB (hp _ d)).1
  have lb:=(qB (hp _ e)).1
  rw[aG (zV hi)]
  simp only[zu hi,aA,h,j,la,lb,zo (show i<100000 by omega),show min ((4:Nat):Int) ((4:Nat):Int)=4 from rfl,show((4:Nat):Int)=4 from rfl]
  by_cases c:Qx F[i]=true
  .have c':=cO c
   rw[aD (by simp only[aC];omega),aD (by simp only[aC];omega),aD (by simp only[aC];omega),aD (by simp only[aC];omega),aD (by simp only[aC];omega),aD (by simp only[aC];omega)]
   exact hg _ ⟨rfl,Xa hi hs c⟩
  .rw[show F.all Qx=false from Q4 hi (by simpa using c)]
   have c':¬((0<=F[i].2.2.1/\F[i].2.2.1<4)/\(0<=F[i].2.2.2.1/\F[i].2.2.2.1<4)/\(1<=F[i].2.2.2.2.1/\F[i].2.2.2.2.1<4)):=λq=>c (aH q)
   by_cases c1:F[i].2.2.1<0
   .rw[aG (aH c1)]
   rw[aD (by simp only[aC];omega)]
   by_cases k:4<=F[i].2.2.1
   .rw[aG (aH k)]
   rw[aD (by simp only[aC];omega)]
   by_cases m:F[i].2.2.2.1<0
   .rw[aG (aH m)]
   rw[aD (by simp only[aC];omega)]
   by_cases r:4<=F[i].2.2.2.1
   .rw[aG (aH r)]
   rw[aD (by simp only[aC];omega)]
   by_cases s:F[i].2.2.2.2.1<1
   .rw[aG (aH s)]
   rw[aD (by simp only[aC];omega),aG (aH Oz)]
 .rintro x g ⟨rfl,b⟩
  rw[aD Y8]
  rw[bE]at b
  rw[b]
theorem ZS{P:List Pc}(a:P.length=n)(hn:n<=4)(hp:∀p∈P,bm p):Rb P F=some (if (jn n F&&F.all Qx)=true then 0 else 1):=by
 have r1:=zch (n:=n) hF ht
 have bad:∀p∈P,BV p=some false:=λp h=>by unfold BV;rw[mg (hp p h)];rfl
 unfold Rb
 rw[aD (by simp only[aC];omega),aD (by simp only[aC];omega)]
 refine zl P.length (λi x=>x=(i:Int)) (λo=>o=_) Oz rfl ?_ ?_
 .rintro i x g hi rfl hg
  rw[aG (zV hi)]
  simp only[zu hi,aA,bad _ (aL hi),aV,cK,zo (show i<100000 by omega)]
  exact hg _ rfl
 .rintro x g rfl
  rw[aD Y8,a,r1]
  simp only[aA]
  cases b:jn n F
  .rfl
  .rw[aD Uz,BM hF a hp b]
   cases F.all Qx<;>rfl
end
structure fY(f:Fq):Prop where
 a:xc f.1
 b:xc f.2.1
 tn:Tn 17 f.2.2.2.2.2.1
def ends(F:List Fq)(k:Nat):Int×Int:=((F.getD k default).1,(F.getD k default).2.1)
theorem zhx{e:Nat->Int×Int}{tr:List Nat}:∀{f:Nat} {v w l:Int} {r:List Nat},fo e tr f v w l=some r->r.length<=f
 |0,_,_,_,_,h=>by cases h
 |f+1,v,w,l,r,h=>by
  rw[fo]at h
  split at h
  .cases h;simp
  .obtain⟨k,_,h⟩:=List.exists_of_findSome?_eq_some h
   split at h
   .cases h
   .cases hd:fo e tr f (oth e k v) w k with
    |none=>rw[hd]at h;cases h
    |some r'=>
     rw[hd]at h
     obtain rfl:=(dD h).symm
     have:=zhx hd
     simp only[aU]
     omega
section
variable{n:Nat}{F:List Fq}(hE:∀f∈F,0<=f.1/\f.1<f.2.1/\f.2.1<(n:Int))(hn:n<=4)
theorem zaX{k:Nat}(hk:k<F.length):ae F (k:Int)=some F[k]/\ends F k=(F[k].1,F[k].2.1):=by
 refine⟨zu hk,?_⟩
 unfold ends
 rw[aB,aE hk]
 rfl
theorem Hz{l:List Int}(h0:0<l.length)(h4:l.length<=4)(a b:Int):RP l a b=some (l.map λx=>if x=a then b else x):=by
 unfold RP
 rw[aG h0,yP (by simp only[List.length_nil];omega),aA,cJ]
 refine zl l.length (λi (x:Int×List Int)=>x=((i:Int),(l.take i).map (λx=>if x=a then b else x)++l.drop i)) (λo=>o=some (l.map λx=>if x=a then b else x)) Oz Y8 ?_ ?_
 .rintro i x g hi rfl hg
  dsimp only
  have hd:=List.drop_eq_getElem_cons hi
  have d:((l.take i).map (λx=>if x=a then b else x)).length=i:=by rw[bI,bX];omega
  have hlen:i<((l.take i).map (λx=>if x=a then b else x)++l.drop i).length:=by rw[aQ,d,bZ];omega
  have e:l.take (i+1)=l.take i++[l[i]]:=(List.take_append_getElem hi).symm
  rw[aG (zV hi),zu hi,aA]
  by_cases c:l[i]=a
  .rw[aG (aH c),zu hlen,aA,aA,zo Oz,aA,yQ,Int.toNat_natCast]
   refine hg _ ?_
   rw[e,List.map_append,List.map_cons,aG c,hd,List.set_append_right _ _ Oz,d,Nat.sub_self]
   simp
   rw[hd]
   rfl
  .rw[aD (by rw[aC];exact c),zo Oz,aA]
   refine hg _ ?_
   rw[e,List.map_append,List.map_cons,aD c,hd]
   simp
 .rintro x g rfl
  dsimp only
  rw[aD Y8,bE,List.drop_length,bP]
include hE hn in
theorem WZ(h6:F.length<=6)(l:tN (n:Int) F=some true):tL (n:Int) F=some (cf (ends F) n F.length):=by
 unfold tL
 rw[aD (by rw[aC];omega),aD (by rw[aC];omega),l,aA,aD Uz]
 refine zl n (λi (x:Int×List Int)=>x=((i:Int),(List.range i).map λ(i:Nat)=>(i:Int))) (λo=>o=some (cf (ends F) n F.length)) Oz rfl ?_ ?_
 .rintro i x g hi rfl hg
  dsimp only
  rw[aG (zV hi),yP (by simp;omega),aA,zo Oz,aA]
  exact hg _ (by rw[List.range_succ,List.map_append];rfl)
 .rintro x g rfl
  dsimp only
  rw[aD Y8]
  refine zl F.length (λi (x:List Int×Int)=>x=(cf (ends F) n i,(i:Int))) (λo=>o=some (cf (ends F) n F.length)) Oz rfl ?_ ?_
  .rintro i x j hi rfl e
   obtain⟨e1,e2⟩:=zaX hi
   have hb:=hE _ (aL hi)
   have h:dy (ends F) n (yJ (ends F) i) (cf (ends F) n i):=u9 λk hk=>by
    rw[(zaX (show k<F.length by omega)).2];exact hE _ (aL _)
   have hlen:=h.len
   have c:=cf.eq_2 (ends F) n i
   rw[e2]at c
   unfold K7 at c
   dsimp only at c |-
   generalize cf (ends F) n i=R at *
   obtain⟨a,ha⟩:∃a:Nat,F[i].1=a:=⟨F[i].1.toNat,by omega⟩
   obtain⟨b,d⟩:∃b:Nat,F[i].2.1=b:=⟨F[i].2.1.toNat,by omega⟩
   rw[ha,d,Int.toNat_natCast,Int.toNat_natCast]at c
   rw[aG (zV hi),e1,aA,ha,d,xy Oz,xy Oz,aA,aA,Hz Oz Oz,aA,zo Oz,aA]
   exact e _ (by rw[c])
  .rintro x j rfl
   dsimp only
   rw[aD Y8]
end
theorem Rh{D:Nat}{t:Rat×Rat}(h:Tn D t)(hD:D<=25):∃d,Kd d/\V2 d 1 t/\Wp t=true:=by
 have h1:=h.one
 obtain⟨d,x,y,h0,hd,hs,e1,e2⟩:=h
 have a:(0:Int)<d:=by omega
 have hx:=XU a hs
 have b:=XU (x:=y) (y:=x) a (by rw[<-hs];omega)
 rw[Int.natAbs_natCast]at hx b
 have key:∀{z:Int},z.natAbs<=d->QV d 1 (mkRat z d):=λ{z} hz=>by
  refine⟨z,?_,by omega⟩
  rw[Rat.mkRat_eq_div]
  exact Rat.div_mul_cancel (by exact_mod_cast (by omega:d≠0))
 exact⟨d,⟨h0,by omega⟩,⟨by rw[e1];exact key hx,by rw[e2];exact key b⟩,aH h1⟩
theorem GO{f:Fq}(h:fY f):u3 f:=Rh h.tn Uz
theorem eH:Cj=some (qI 1,0)/\gx=some (qI 1,0):=by
 have a:dh 1 1=some (qI 1):=l8 Uz
 unfold Cj gx
 rw[a]
 exact⟨rfl,rfl⟩
theorem wZ{d e B C:Nat}{a b:Rat×Rat}(h:V2 d B a)(g:V2 e C b)(s:SB d B)(s':SB e C):m7 a b=some (decide (a=b))/\Lz a b=some (decide (a=b))/\Zh a b=some (decide (a=b))/\Iq a b=some (decide (a=b)):=by
 have e1:(decide (a=b))=(decide (a.1=b.1)&&decide (a.2=b.2)):=by
  rw[<-Bool.decide_and]
  congr 1
  exact propext ⟨λq=>by rw[q];exact⟨rfl,rfl⟩,λq=>Prod.ext q.1 q.2⟩
 have e2:m7 a b=some (decide (a=b)):=by
  unfold m7
  rw[jG (h.1.sm s) (g.1.sm s'),jG (h.2.sm s) (g.2.sm s'),e1]
  simp only[aA]
  cases decide (a.1=b.1)<;>rfl
 exact⟨e2,e2,e2,e2⟩
theorem zdW{d e:Nat}{t u:Rat×Rat}(hd:Kd d)(he:Kd e)(h:V2 d 1 t)(g:V2 e 1 u):FJ t u=some (yx t u)/\fR t u=some (yx t u)/\V2 (d*e) 2 (yx t u)/\SB (d*e) 2:=by
 have b:d*e<=289*289:=eE hd.2 he.2
 have a:0<d*e:=Nat.mul_pos hd.1 he.1
 have r:=u7 h g (hd.s0 Uz) (he.s0 Uz) ⟨a,by omega⟩
 refine⟨?_,QF r,V2.rot h g,⟨a,by omega⟩⟩
 unfold FJ
 rw[jA r]
 rfl
theorem Ij{a m:Int}(ha:xc a)(h0:0<m)(h1:m<100000):∃r,FG a m=some r/\0<=r/\r<m:=by
 unfold FG
 have t:∀{x:Int},0<=x->0<=Int.tmod x m/\Int.tmod x m<m:=λhx=>⟨Int.tmod_nonneg _ hx,Int.tmod_lt_of_pos _ h0⟩
 by_cases h:a<0
 .have e1:i64 (a+1)=some (a+1):=by unfold i64;rw[aG];unfold xc at *;omega
  have e2:i64 (0-(a+1))=some (0-(a+1)):=by unfold i64;rw[aG];unfold xc at *;omega
  rw[aG (aH h),e1,aA,e2,aA,aD Oz]
  exact⟨_,rfl,t Oz⟩
 .rw[aD (by simp only[aC];exact h),aD Oz]
  exact⟨_,rfl,t Oz⟩
def Kj(l:List Int):Prop:=∀x∈l,xc x
theorem jl{l:List Int}(hl:Kj l){i m:Int}(hi:0<=i)(h0:0<m)(h1:m<100000):∃r,fB l i m=some r/\0<=r/\r<m:=by
 unfold fB
 rw[aD (by simp only[aC];omega)]
 by_cases h:(l.length:Int)<=i
 .rw[aG (aH h)]
  exact⟨0,rfl,by omega,h0⟩
 .rw[aD (by simp only[aC];exact h)]
  obtain⟨x,hx,e⟩:=zaG (l:=l) hi Oz
  obtain⟨r,b,h2,a⟩:=Ij (hl x hx) h0 h1
  rw[e,aA,b]
  exact⟨r,rfl,h2,a⟩
theorem SK{x:Int}(h:x.natAbs<1000000000):xc x:=by unfold xc;omega
theorem zeN{p q:Int}(hp:p.natAbs<1000000)(a:0<q/\q<1000000):dh p q=some (Rat.divInt p q):=aG ⟨by omega,by omega,a.1⟩
theorem zfB{p:Int}{q d:Nat}{B:Nat}(hq:0<q)(k:Nat)(hd:q*k=d)(hp:p.natAbs<=q*B):QV d B (Rat.divInt p (q:Int)):=by
 subst hd
 have:QV q B (Rat.divInt p (q:Int)):=by
  refine⟨p,?_,hp⟩
  rw[Rat.divInt_eq_div]
  exact Rat.div_mul_cancel (by exact_mod_cast (by omega:q≠0))
 exact this.up
inductive KL:List Fq->Nat->Prop
 |nil:KL [] 1
 |cons {f:Fq} {F:List Fq} {d K:Nat}:Tx d f.2.2.2.2.2.1->KL F K->KL (f::F) (d*K)
theorem KL.pos:∀{F:List Fq} {K:Nat},KL F K->0<K
 |_,_,.nil=>by omega
 |_,_,.cons h g=>Nat.mul_pos h.1 g.pos
theorem KL.fn:∀{F:List Fq} {K:Nat},KL F K->∃D:Nat->Nat,pr D (List.range F.length)=K/\∀k,k<F.length->Tx (D k) (F.getD k default).2.2.2.2.2.1
 |_,_,.nil=>⟨λ_=>1,rfl,λk hk=>absurd hk Y8⟩
 |_,_,.cons (f:=f) (F:=F) (d:=d) h g=>by
  obtain⟨D,h1,h2⟩:=g.fn
  refine⟨λk=>match k with|0=>d|k+1=>D k,?_,λk hk=>?_⟩
  .rw[aU,List.range_succ_eq_map,pr,rh,<-h1]
  .match k,hk with
   |0,_=>exact h
   |k+1,hk=>exact h2 k (by simpa using hk)
def PcB(p:Pc):Prop:=bm p/\QV 4 1 p.2.2.2.2.2.1
theorem zfa:∀{F:List Fq},(∀f∈F,Tn 1 f.2.2.2.2.2.1)->KL F 1
 | [],_=>.nil
 |f::F,h=>by
  obtain⟨d,hd,hx⟩:=(h f (aO ..)).ex
  obtain rfl:d=1:=by have:=hx.1;omega
  exact .cons (K:=1) hx (zfa λg hg=>h g (aP _ hg))
def iw(p:Int×Int):Int×Int:=(0-p.2,p.1)
def iq(v p:Int×Int):Int×Int:=(p.1+v.1,p.2+v.2)
def k7:Nat->Int×Int->Int×Int
 |0,p=>p
 |n+1,p=>iw (k7 n p)
def bz(n:Nat)(v p:Int×Int):Int×Int:=iq v (k7 n p)
section
variable{a b c d v:Int×Int}
theorem zeE:zf (iw a) (iw b) (iw c)=zf a b c/\zX (zL (iw a) (iw c)) (zL (iw b) (iw c))=zX (zL a c) (zL b c)/\vf (iw a) (iw b) (iw c) (iw d)=vf a b c d:=by
 unfold zf vf zJ zX zL iw
 refine⟨?_,?_,?_⟩<;>grind
theorem zex:zf (iq v a) (iq v b) (iq v c)=zf a b c/\zX (zL (iq v a) (iq v c)) (zL (iq v b) (iq v c))=zX (zL a c) (zL b c)/\vf (iq v a) (iq v b) (iq v c) (iq v d)=vf a b c d:=by
 unfold zf vf zJ zX zL iq
 refine⟨?_,?_,?_⟩<;>grind
end
theorem zcn{f:Int×Int->Int×Int}(h:∀{a b c d:Int×Int},zf (f a) (f b) (f c)=zf a b c/\zX (zL (f a) (f c)) (zL (f b) (f c))=zX (zL a c) (zL b c)/\vf (f a) (f b) (f c) (f d)=vf a b c d){a b c d:Int×Int}:jc (f a) (f b) (f c) (f d)=jc a b c d:=by
 have hs:∀{a b c:Int×Int},zf (f a) (f b) (f c)=zf a b c:=λ{a b c}=>(@h a b c a).1
 have hd:∀{a b c:Int×Int},zX (zL (f a) (f c)) (zL (f b) (f c))=zX (zL a c) (zL b c):=λ{a b c}=>(@h a b c a).2.1
 have ha:vf (f a) (f b) (f c) (f d)=vf a b c d:=h.2.2
 rw[<-fg,<-fg]
 unfold KI vC im
 rw[ha]
 simp only[hs,hd]
theorem zcm:∀(n:Nat) {a b c d:Int×Int},jc (k7 n a) (k7 n b) (k7 n c) (k7 n d)=jc a b c d
 |0,_,_,_,_=>rfl
 |n+1,a,b,c,d=>(zcn (f:=iw) zeE).trans (zcm n)
theorem BB{n:Nat}{v a b c d:Int×Int}:jc (bz n v a) (bz n v b) (bz n v c) (bz n v d)=jc a b c d:=(zcn (f:=iq v) zex).trans (zcm n)
theorem R4{N:Nat}:∀(n:Nat) {p:Int×Int},Nr N p->Nr N (k7 n p)
 |0,_,h=>h
 |n+1,p,h=>by
  obtain⟨h1,h2⟩:=R4 n h
  exact⟨by show(0-_:Int).natAbs<=N;omega,h1⟩
theorem IE{p:Int×Int}(h:Nr 8 p){k:Nat}(hk:k<4):Ra p (k:Int)=some (k7 k p):=by
 unfold Ra
 refine zl k (λi x=>x=((i:Int),k7 i p)) (λo=>o=_) Oz rfl ?_ ?_
 .rintro i x g hi rfl hg
  have e:=R4 i h
  have h2:=e.2
  rw[aG (zV hi)]
  show(i64 (0-(k7 i p).2)).bind _=_
  rw[xd Oz,aA,zo (show i<100000 by omega),aA]
  exact hg _ rfl
 .rintro x g rfl
  rw[aD Y8]
def Qn(N:Nat)(l:List (Int×Int)):Prop:=∃a b c d,l=[a,b,c,d]/\Nr N a/\Nr N b/\Nr N c/\Nr N d
def Qd(N:Nat)(l:List (Int×Int)):Prop:=∃a b c d,l=[a,b,c,d]/\(Nr N a/\Nr N b/\Nr N c/\Nr N d)/\jc a b c d=true
theorem ID{Q:List (List (Int×Int))}(hl:Q.length<12)(h:∀q∈Q,Qn 8 q):∃v,RM Q=some v/\(v=true->∀q∈Q,Qd 8 q):=by
 unfold RM
 refine zl Q.length (λi x=>x=(i:Int)/\∀q∈Q.take i,Qd 8 q) (λo=>∃v,o=some v/\(v=true->∀q∈Q,Qd 8 q)) hl ⟨rfl,by simp⟩ ?_ ?_
 .rintro i x g hi ⟨rfl,n⟩ hg
  obtain⟨a,b,c,d,e,ha,hb,hc,hd⟩:=h _ (aL hi)
  have j:=ha.le (M:=1000) Uz
  have k:=hb.le (M:=1000) Uz
  have l:=hc.le (M:=1000) Uz
  have m:=hd.le (M:=1000) Uz
  rw[aG (zV hi),zu hi,aA,zgm (p:=(0,0,Q[i],[],[],0,0,0,0,0)) e j k l m,aA,zgn j k l m,aA]
  cases hv:jc a b c d
  .exact⟨false,rfl,λq=>nomatch q⟩
  .rw[aD Uz,zo (show i<100000 by omega),aA]
   refine hg _ ⟨rfl,λq f=>?_⟩
   rw[yY hi]at f
   rcases aW.mp f with f|f
   .exact n q f
   .rw[bC.mp f]
    exact⟨a,b,c,d,e,⟨ha,hb,hc,hd⟩,hv⟩
 .rintro x g ⟨rfl,n⟩
  rw[aD Y8]
  rw[bE]at n
  exact⟨true,rfl,λ_=>n⟩
theorem zfE{w h x y b r t l:Int}(hw:4<=w/\w<=8)(hh:4<=h/\h<=8)(hx:0<=x/\x<=8)(j:0<=y/\y<=8)(hb:0<=b/\b<=8)(m:0<=r/\r<=8)(n:0<=t/\t<=8)(hl:0<=l/\l<=8):∃Q,Qv w h (x,y) b r t l=some Q/\Q.length=4/\∀q∈Q,Qn 8 q:=by
 have e:∀{p q:Int},0<=p/\p<=8->0<=q/\q<=8->Nr 8 (p,q):=λh g=>⟨by show Int.natAbs _<=8;omega,by show Int.natAbs _<=8;omega⟩
 have z:(0:Int)<=0/\(0:Int)<=8:=by omega
 have i:0<=w/\w<=8:=by omega
 have f:0<=h/\h<=8:=by omega
 refine⟨_,rfl,rfl,?_⟩
 intro q k
 simp only[aJ,aY,or_false]at k
 rcases k with rfl|rfl|rfl|rfl
 .exact⟨_,_,_,_,rfl,e z z,e hb z,e hx j,e z hl⟩
 .exact⟨_,_,_,_,rfl,e hb z,e i z,e i m,e hx j⟩
 .exact⟨_,_,_,_,rfl,e hx j,e i m,e i f,e n f⟩
 .exact⟨_,_,_,_,rfl,e z hl,e hx j,e n f,e z f⟩
theorem nY:∃Q,Qv 4 4 (2,2) 2 2 2 2=some Q/\Q.length=4/\∀q∈Q,Qd 8 q:=by
 refine⟨_,rfl,rfl,?_⟩
 intro q e
 simp only[aJ,aY,or_false]at e
 rcases e with rfl|rfl|rfl|rfl<;>exact⟨_,_,_,_,rfl,⟨by unfold Nr;decide,by unfold Nr;decide,by unfold Nr;decide,by unfold Nr;decide⟩,by decide⟩
theorem Oj{q:List (Int×Int)}(h:Qd 8 q){n:Nat}{v:Int×Int}(hv:Nr 4 v):ij (q.map (bz n v)):=by
 obtain⟨a,b,c,d,rfl,⟨ha,hb,hc,hd⟩,f⟩:=h
 have e:∀{p:Int×Int},Nr 8 p->Nr 12 (bz n v p):=λhp=>by
  obtain⟨h1,h2⟩:=R4 n hp
  obtain⟨h3,h4⟩:=hv
  exact⟨by show(_+_:Int).natAbs<=12;omega,by show(_+_:Int).natAbs<=12;omega⟩
 exact⟨_,_,_,_,rfl,⟨e ha,e hb,e hc,e hd⟩,BB.trans f⟩
theorem vO{t:Rat×Rat}(h:Tn 1 t):V2 1 1 t:=by
 obtain⟨d,x,y,h0,hd,hs,e1,e2⟩:=h
 obtain rfl:d=1:=by omega
 have hx:=XU Uz hs
 have a:=XU (x:=y) (y:=x) (d:=((1:Nat):Int)) Uz (by rw[<-hs];omega)
 have key:∀{z:Int},z.natAbs<=1->QV 1 1 (mkRat z 1):=λ{z} hz=>by
  refine⟨z,?_,by omega⟩
  rw[Rat.mkRat_eq_div]
  exact Rat.div_mul_cancel Uz
 exact⟨by rw[e1];exact key hx,by rw[e2];exact key a⟩
theorem Xi:Tn 1 (qI 1,0):=eN
theorem J5{r:Int}(h:0<=r/\r<3)(d:Int)(hd:d=2\/d=4):dh r d=some (Rat.divInt r d)/\0<=Rat.divInt r d:=by
 refine⟨zeN Oz Oz,?_⟩
 have e:r=0\/r=1\/r=2:=by omega
 rcases e with rfl|rfl|rfl<;>rcases hd with rfl|rfl<;>decide
theorem zcu{n:Int}{l:List (Int×Int)}(h:l.length=4):tM n l=some (n,0,l,[false,false,false,false],[0,0,0,0],0,qI 1,qI 1,qI 100,Rat.divInt 1 2):=by
 have b:dh 1 1=some (qI 1):=l8 Uz
 have a:dh 100 1=some (qI 100):=l8 Uz
 have ap:app ([]:List (Int×Int)) l=some l:=by rw[yP (by simp;omega)];rfl
 unfold tM
 rw[b,aA,ap,aA,a,aA,Sb,aA,h,aG ⟨by decide,rfl,by decide⟩,aG ⟨by decide,rfl,by decide⟩]
 rfl
theorem re{n:Int}{l:List (Int×Int)}(hn:0<=n/\n<=999)(hl:ij l){r s u:Int}(c:0<=r/\r<3)(hs:0<=s/\s<3)(hu:0<=u/\u<3) :
 PcB (n,0,l,[false,false,false,false],[0,0,0,0],Rat.divInt r 4,qI (1+s),qI (1+s)+Rat.divInt u 2,qI 100,Rat.divInt 1 2):=by
 have b:QV 4 1 (Rat.divInt r 4):=zfB (q:=4) Uz 1 rfl Oz
 refine⟨?_,b⟩
 have h2:=(J5 hu 2 (.inl rfl)).2
 have a:QV 2 3 (qI (1+s)):=(QV.int (n:=1+s) (B:=3) Oz).up (k:=2)
 have d:QV 2 1 (Rat.divInt u 2):=zfB (q:=2) Uz 1 rfl Oz
 refine⟨hl,hn,⟨Int.le_refl _,show(0:Int)<=4 by decide⟩,rfl,rfl,⟨b.le Uz,(J5 c 4 (.inr rfl)).2⟩,⟨a.le Uz,?_⟩,⟨(a.add d).le Uz,?_⟩,rfl,rfl⟩
 .have:=ru (show(0:Int)<1+s by omega)
  exact this
 .show qI (1+s)<=qI (1+s)+Rat.divInt u 2
  grind
theorem Gw{l:List Int}{Q:List (List (Int×Int))}{g:Int×List Pc×List Pl->Option (List Pc×List Fq×List Pl)}{x:Int×List Pc×List Pl}:SX l Q g x=M8 l Q g x 0 0 0:=by
 have e:i64 (4-0)=some 4:=xd Uz
 unfold SX M8
 simp only[e,aA]
theorem E7{v:Rat}:∀{l:List Rat} {a:Rat},v<=a->(∀x∈l,v<=x)->v<=l.foldl fe a
 | [],_,h,_=>h
 |x::l,a,h,hl=>by
  rw[List.foldl_cons]
  refine E7 ?_ λy b=>hl y (aP _ b)
  unfold fe
  split
  .exact hl x (aO ..)
  .exact h
theorem E8{v:Rat}:∀{l:List Rat} {a:Rat},a<=v->(∀x∈l,x<=v)->l.foldl fb a<=v
 | [],_,h,_=>h
 |x::l,a,h,hl=>by
  rw[List.foldl_cons]
  refine E8 ?_ λy b=>hl y (aP _ b)
  unfold fb
  split
  .exact hl x (aO ..)
  .exact h
theorem Hb{v:Rat}{dir:Rat×Rat}{m:List (Rat×Rat)}(hm:m≠[])(h:∀p∈m,v<=qR dir p):v<=IS dir m:=by
 cases m with
 |nil=>exact absurd rfl hm
 |cons p l=>
  refine E7 (h p (aO ..)) λx hx=>?_
  obtain⟨q,a,rfl⟩:=List.mem_map.mp hx
  exact h q (aP _ a)
theorem H5{v:Rat}{dir:Rat×Rat}{m:List (Rat×Rat)}(hm:m≠[])(h:∀p∈m,qR dir p<=v):I5 dir m<=v:=by
 cases m with
 |nil=>exact absurd rfl hm
 |cons p l=>
  refine E8 (h p (aO ..)) λx hx=>?_
  obtain⟨q,a,rfl⟩:=List.mem_map.mp hx
  exact h q (aP _ a)
theorem BI(d:Rat×Rat):0<=Kv d:=by
 unfold Kv Cv
 split<;>split<;>grind
theorem rM{t v:Rat}(d:t<=0){l m:List (Rat×Rat)}(hl:l≠[])(hm:m≠[]){dir:Rat×Rat}(h1:∀p∈l,qR dir p<=v)(h2:∀p∈m,v<=qR dir p):Ka t l m dir=true:=by
 refine aH ?_
 have a:=H5 hl h1
 have b:=Hb hm h2
 have c:=Rat.mul_le_mul_of_nonneg_right d (BI dir)
 rw[Rat.zero_mul]at c
 grind
def dp(o p q:Rat×Rat):Rat:=(p.1-o.1)*(q.2-o.2)-(p.2-o.2)*(q.1-o.1)
theorem R2{t:Rat}(e:t<=0){a b c:Rat×Rat}{m:List (Rat×Rat)}(hm:m≠[]){p q:Rat×Rat}(d:(p=a/\q=b)\/(p=b/\q=c)\/(p=c/\q=a))(h1:∀x∈[a,b,c],0<=dp p q x)(h2:∀x∈m,dp p q x<=0):uK t [a,b,c] m=true:=by
 refine dT.mpr ⟨uO p q,?_,rM (v:=qR (uO p q) p) e Y8 hm (λx hx=>?_) λx hx=>?_⟩
 .unfold Qm
  refine bJ _ (bJ _ ?_)
  rw[show gw [a,b,c] [a,b,c].length=[uO a b,uO b c,uO c a]by simp[gw,FT,List.range_succ]]
  rcases d with⟨rfl,rfl⟩|⟨rfl,rfl⟩|⟨rfl,rfl⟩<;>simp
 .have:=h1 x hx
  unfold dp at this
  unfold qR uO
  grind
 .have:=h2 x hx
  unfold dp at this
  unfold qR uO
  grind
theorem R1{t:Rat}(e:t<=0){a b c:Rat×Rat}{l:List (Rat×Rat)}(hl:l≠[]){p q:Rat×Rat}(d:(p=a/\q=b)\/(p=b/\q=c)\/(p=c/\q=a))(h1:∀x∈[a,b,c],0<=dp p q x)(h2:∀x∈l,dp p q x<=0):uK t l [a,b,c]=true:=by
 refine dT.mpr ⟨uO q p,?_,rM (v:=qR (uO q p) p) e hl Y8 (λx hx=>?_) λx hx=>?_⟩
 .unfold Qm
  refine bJ _ (bA _ ?_)
  rw[show Zx [a,b,c] [a,b,c].length=[uO b a,uO c b,uO a c]by simp[Zx,FT,List.range_succ]]
  rcases d with⟨rfl,rfl⟩|⟨rfl,rfl⟩|⟨rfl,rfl⟩<;>simp
 .have:=h2 x hx
  unfold dp at this
  unfold qR uO
  grind
 .have:=h1 x hx
  unfold dp at this
  unfold qR uO
  grind
theorem Na{t:Rat}(j:t<=0){o u v u' v':Rat×Rat}(h1:0<=dp o u v)(h2:0<=dp o u' v')(m:¬(0<=dp o u' u/\0<dp o u v'))(n:¬(0<=dp o u u'/\0<dp o u' v)){x y:List (Rat×Rat)}(hx:x=[o,u,v]\/x=[v,o,u]\/x=[u,v,o])(l:y=[o,u',v']\/y=[v',o,u']\/y=[u',v',o]):uK t x y=true:=by
 have s0:∀{a b:Rat×Rat},dp o a b = - dp o b a:=by intro a b;unfold dp;grind
 have s1:∀{a:Rat×Rat},dp o a o=0:=by intro a;unfold dp;grind
 have s2:∀{a:Rat×Rat},dp o a a=0:=by intro a;unfold dp;grind
 have e:x≠[]:=by rcases hx with rfl|rfl|rfl<;>simp
 have f:y≠[]:=by rcases l with rfl|rfl|rfl<;>simp
 have e1:=s0 (a:=u) (b:=u')
 have e2:=s0 (a:=u) (b:=v')
 have e3:=s0 (a:=u') (b:=v)
 have m1:∀z∈x,z=o\/z=u\/z=v:=λz d=>by
  rcases hx with rfl|rfl|rfl<;>simp only[aJ,aY,or_false]at d<;>rcases d with rfl|rfl|rfl<;>simp
 have m2:∀z∈y,z=o\/z=u'\/z=v':=λz d=>by
  rcases l with rfl|rfl|rfl<;>simp only[aJ,aY,or_false]at d<;>rcases d with rfl|rfl|rfl<;>simp
 by_cases c:0<=dp o u' u
 .have c1:dp o u u'<=0:=by grind
  have k:dp o u v'<=0:=by
   have:¬0<dp o u v':=λh=>m ⟨c,h⟩
   exact Rat.not_lt.mp this
  have g:∀z∈x,0<=dp o u z:=λz d=>by
   rcases m1 z d with rfl|rfl|rfl
   .rw[s1];exact dH
   .rw[s2];exact dH
   .exact h1
  have i:∀z∈y,dp o u z<=0:=λz d=>by
   rcases m2 z d with rfl|rfl|rfl
   .rw[s1];exact dH
   .exact c1
   .exact k
  rcases hx with rfl|rfl|rfl
  .exact R2 j f (.inl ⟨rfl,rfl⟩) g i
  .exact R2 j f (.inr (.inl ⟨rfl,rfl⟩)) g i
  .exact R2 j f (.inr (.inr ⟨rfl,rfl⟩)) g i
 .have c0:dp o u' u<=0:=Rat.le_of_lt (Rat.not_le.mp c)
  have c1:0<=dp o u u':=by grind
  have k:dp o u' v<=0:=by
   have:¬0<dp o u' v:=λh=>n ⟨c1,h⟩
   exact Rat.not_lt.mp this
  have g:∀z∈y,0<=dp o u' z:=λz d=>by
   rcases m2 z d with rfl|rfl|rfl
   .rw[s1];exact dH
   .rw[s2];exact dH
   .exact h2
  have i:∀z∈x,dp o u' z<=0:=λz d=>by
   rcases m1 z d with rfl|rfl|rfl
   .rw[s1];exact dH
   .exact c0
   .exact k
  rcases l with rfl|rfl|rfl
  .exact R1 j e (.inl ⟨rfl,rfl⟩) g i
  .exact R1 j e (.inr (.inl ⟨rfl,rfl⟩)) g i
  .exact R1 j e (.inr (.inr ⟨rfl,rfl⟩)) g i
theorem RC{X Y W H p q u1 u2:Int}(d:0<X)(f:0<Y)(hW:0<W)(hH:0<H)(hp : -X<=p)(hpq:p<q)(hq:q<=W)(hu : -Y<=u2)(bd:(u2 = -Y/\(u1<p\/q<=u1))\/u2=H\/(u1 = -X /\ -Y<u2)\/u1=W):¬(0<=p*u2+Y*u1/\0 < -(Y*u1)-q*u2):=by
 rintro⟨h1,h2⟩
 have u0:u2<0:=by
  apply Int.not_le.mp
  intro g
  have:=Int.mul_nonneg g (show 0<=q-p by omega)
  grind
 rcases bd with⟨e,g|g⟩|e|⟨e,g⟩|e
 .subst e
  have:=Int.mul_pos f (show 0<p-u1 by omega)
  grind
 .subst e
  have:=Int.mul_nonneg (show 0<=Y by omega) (show 0<=u1-q by omega)
  grind
 .omega
 .subst e
  have a:=Int.mul_nonneg (show 0<=p+X by omega) (show 0 <= -u2 by omega)
  have b:=Int.mul_pos d (show 0<Y+u2 by omega)
  grind
 .subst e
  have a:=Int.mul_nonneg (show 0<=u1-q by omega) (show 0 <= -u2 by omega)
  have b:=Int.mul_nonneg (show 0<=u1 by omega) (show 0<=Y+u2 by omega)
  grind
def cg(c p q u:Int×Int):Prop:=¬(0<=zf c p u/\0<zf c u q)
structure Bx(w h x y b r t l:Int):Prop where
 x:0<x/\x<w
 y:0<y/\y<h
 b:0<b/\b<w
 r:0<r/\r<h
 t:0<t/\t<w
 l:0<l/\l<h
section
variable{w h x y b r t l:Int}(hB:Bx w h x y b r t l){p q u1 u2:Int}
include hB
theorem zgS(hp:0<=p)(hpq:p<q)(hq:q<=w)(hu:0<=u2)(bd:(u2=0/\(u1<p\/q<=u1))\/u2=h\/(u1=0/\0<u2)\/u1=w):cg (x,y) (p,0) (q,0) (u1,u2):=by
 obtain⟨⟨d,x1⟩,⟨e,y1⟩,-,-,-,-⟩:=hB
 have:=RC (X:=x) (Y:=y) (W:=w-x) (H:=h-y) (p:=p-x) (q:=q-x) (u1:=u1-x) (u2:=u2-y) d e Oz Oz Oz Oz Oz Oz Oz
 rintro⟨h1,h2⟩
 refine this ⟨?_,?_⟩
 .unfold zf zJ zL at h1;grind
 .unfold zf zJ zL at h2;grind
theorem W4(hp:0<=p)(hpq:p<q)(hq:q<=h)(hu:u1<=w)(bd:(u1=w/\(u2<p\/q<=u2))\/u1=0\/(u2=0/\u1<w)\/u2=h):cg (x,y) (w,p) (w,q) (u1,u2):=by
 obtain⟨⟨d,x1⟩,⟨e,y1⟩,-,-,-,-⟩:=hB
 have:=RC (X:=y) (Y:=w-x) (W:=h-y) (H:=x) (p:=p-y) (q:=q-y) (u1:=u2-y) (u2:= -(u1-x)) e Oz Oz d Oz Oz Oz Oz Oz
 rintro⟨h1,h2⟩
 refine this ⟨?_,?_⟩
 .unfold zf zJ zL at h1;grind
 .unfold zf zJ zL at h2;grind
theorem zgR(hp:0<=q)(hpq:q<p)(hq:p<=w)(hu:u2<=h)(bd:(u2=h/\(p<u1\/u1<=q))\/u2=0\/(u1=w/\u2<h)\/u1=0):cg (x,y) (p,h) (q,h) (u1,u2):=by
 obtain⟨⟨d,x1⟩,⟨e,y1⟩,-,-,-,-⟩:=hB
 have:=RC (X:=w-x) (Y:=h-y) (W:=x) (H:=y) (p:= -(p-x)) (q:= -(q-x)) (u1:= -(u1-x)) (u2:= -(u2-y)) Oz Oz d e Oz Oz Oz Oz Oz
 rintro⟨h1,h2⟩
 refine this ⟨?_,?_⟩
 .unfold zf zJ zL at h1;grind
 .unfold zf zJ zL at h2;grind
theorem zcw(hp:0<=q)(hpq:q<p)(hq:p<=h)(hu:0<=u1)(bd:(u1=0/\(p<u2\/u2<=q))\/u1=w\/(u2=h/\0<u1)\/u2=0):cg (x,y) (0,p) (0,q) (u1,u2):=by
 obtain⟨⟨d,x1⟩,⟨e,y1⟩,-,-,-,-⟩:=hB
 have:=RC (X:=h-y) (Y:=x) (W:=y) (H:=w-x) (p:= -(p-y)) (q:= -(q-y)) (u1:= -(u2-y)) (u2:=u1-x) Oz d e Oz Oz Oz Oz Oz Oz
 rintro⟨h1,h2⟩
 refine this ⟨?_,?_⟩
 .unfold zf zJ zL at h1;grind
 .unfold zf zJ zL at h2;grind
end
theorem cg.join{c p k q u:Int×Int}(h1:cg c p k u)(h2:cg c k q u):cg c p q u:=by
 rintro⟨g1,g2⟩
 have e:zf c u k = - zf c k u:=by unfold zf zJ;grind
 by_cases g:0<=zf c k u
 .exact h2 ⟨g,g2⟩
 .exact h1 ⟨g1,by omega⟩
theorem vu{a b c:Int×Int}:zf b c a=zf a b c/\zf c a b=zf a b c/\zf a c b = - zf a b c/\zf b a c = - zf a b c/\zf c b a = - zf a b c:=by
 unfold zf zJ zL
 refine⟨?_,?_,?_,?_,?_⟩<;>grind
theorem ek{a b:Int×Int}:zf a b a=0/\zf a b b=0/\zf a a b=0:=by
 unfold zf zJ zL
 refine⟨?_,?_,?_⟩<;>grind
def SN(o u v:Int×Int)(T:List (Int×Int)):Prop:=T=[o,u,v]\/T=[v,o,u]\/T=[u,v,o]
inductive nB(o:Int×Int)(mine starts others:List (Int×Int))(T:List (Int×Int)):Prop
 |cone (u v:Int×Int):u∈mine->0<=zf o u v->(∀z∈starts,cg o u v z)->SN o u v T->nB o mine starts others T
 |corner (a k c:Int×Int):T=[a,k,c]->0<=zf c a k->(∀z∈others,zf c a z<=0)->zf c a o<=0->nB o mine starts others T
section
variable{φ:Int×Int->Rat×Rat}(hφ:∀a b c,dp (φ a) (φ b) (φ c)=((zf a b c:Int):Rat))
include hφ
theorem Zs{a b c:Int×Int}:0<=dp (φ a) (φ b) (φ c)↔0<=zf a b c:=by rw[hφ];exact_mod_cast Iff.rfl
theorem Ff{a b c:Int×Int}:dp (φ a) (φ b) (φ c)<=0↔zf a b c<=0:=by rw[hφ];exact_mod_cast Iff.rfl
theorem rK{a b c:Int×Int}:0<dp (φ a) (φ b) (φ c)↔0<zf a b c:=by rw[hφ];exact_mod_cast Iff.rfl
theorem mC{e:Rat}(he:e<=0){o:Int×Int}{F M2 S1 S2 G H T1 T2:List (Int×Int)}(h1:nB o F S1 G T1)(h2:nB o M2 S2 H T2)(E:∀z∈M2,z∈S1)(D:∀z∈F,z∈S2)(t1:∀z∈T1,z=o\/z∈H)(t2:∀z∈T2,z=o\/z∈G)(J:T1≠[])(K:T2≠[]):uK e (T1.map φ) (T2.map φ)=true:=by
 have I:∀{T:List (Int×Int)},T≠[]->T.map φ≠[]:=λh g=>h (List.map_eq_nil_iff.mp g)
 cases h1 with
 |corner a k c m hk C ho=>
  subst m
  refine R2 he (I K) (p:=φ c) (q:=φ a) (.inr (.inr ⟨rfl,rfl⟩)) (λz d=>?_) λz d=>?_
  .simp only[aJ,aY,or_false]at d
   rcases d with rfl|rfl|rfl
   .rw[Zs hφ,ek.2.1];exact Int.le_refl _
   .exact(Zs hφ).mpr hk
   .rw[Zs hφ,ek.1];exact Int.le_refl _
  .obtain⟨z,hm,rfl⟩:=List.mem_map.mp d
   rw[Ff hφ]
   rcases t2 z hm with rfl|g
   .exact ho
   .exact C z g
 |cone u v hu B i m=>
  cases h2 with
  |corner a k c s hk C ho=>
   subst s
   refine R1 he (I J) (p:=φ c) (q:=φ a) (.inr (.inr ⟨rfl,rfl⟩)) (λz d=>?_) λz d=>?_
   .simp only[aJ,aY,or_false]at d
    rcases d with rfl|rfl|rfl
    .rw[Zs hφ,ek.2.1];exact Int.le_refl _
    .exact(Zs hφ).mpr hk
    .rw[Zs hφ,ek.1];exact Int.le_refl _
   .obtain⟨z,hm,rfl⟩:=List.mem_map.mp d
    rw[Ff hφ]
    rcases t1 z hm with rfl|g
    .exact ho
    .exact C z g
  |cone u' v' A j f n=>
   refine Na he (o:=φ o) (u:=φ u) (v:=φ v) (u':=φ u') (v':=φ v') ((Zs hφ).mpr B) ((Zs hφ).mpr j) (λg=>f u (D u hu) ⟨(Zs hφ).mp g.1,(rK hφ).mp g.2⟩) (λg=>i u' (E u' A) ⟨(Zs hφ).mp g.1,(rK hφ).mp g.2⟩) ?_ ?_
   .rcases m with rfl|rfl|rfl<;>simp
   .rcases n with rfl|rfl|rfl<;>simp
end
section
variable{w h x y b r t l:Int}(hB:Bx w h x y b r t l)
def iG(o:Int×Int)(mine starts others a:List (Int×Int))(T:List (Int×Int)):Prop:=nB o mine starts others T/\(∀z∈T,z=o\/z∈a)/\T≠[]
theorem Se{w x y z:Int×Int}(h1:0<zf w x y)(h2:zf y w z<0):wN w x y z=true:=by
 unfold wN
 rw[aH h1,aX (show ¬0<=zf y w z by omega)]
 simp
include hB
theorem H6:∀T∈vL (0,0) (b,0) (x,y) (0,l),iG (x,y) [(0,0),(0,l)] [(b,0),(w,0),(w,r),(w,h),(t,h),(0,h)] [(b,0),(w,0),(w,r),(w,h),(t,h),(0,h),(0,l)] [(0,0),(b,0),(0,l)] T:=by
 obtain⟨m,x1⟩:=hB.x;obtain⟨n,y1⟩:=hB.y;obtain⟨f,b1⟩:=hB.b;obtain⟨r0,r1⟩:=hB.r;obtain⟨t0,t1⟩:=hB.t;obtain⟨i,l1⟩:=hB.l
 have j:∀z∈[(b,(0:Int)),(w,0),(w,r),(w,h),(t,h),(0,h)],cg (x,y) (0,0) (b,0) z:=λz d=>by
  simp only[aJ,aY,or_false]at d
  rcases d with rfl|rfl|rfl|rfl|rfl|rfl<;>exact zgS hB Oz Oz Oz Oz Oz
 have k:∀z∈[(b,(0:Int)),(w,0),(w,r),(w,h),(t,h),(0,h)],cg (x,y) (0,l) (0,0) z:=λz d=>by
  simp only[aJ,aY,or_false]at d
  rcases d with rfl|rfl|rfl|rfl|rfl|rfl<;>exact zcw hB Oz Oz Oz Oz Oz
 have s1:zf (0,0) (b,0) (x,y)=b*y:=by unfold zf zJ zL;grind
 have s2:zf (0,l) (0,0) (x,y)=l*x:=by unfold zf zJ zL;grind
 have p1:=Int.mul_pos f n
 have p2:=Int.mul_pos i m
 obtain⟨c1,c2,-,-,-⟩:=vu (a:=((0:Int),(0:Int))) (b:=(b,(0:Int))) (c:=(x,y))
 obtain⟨d1,d2,d3,d4,d5⟩:=vu (a:=((0:Int),l)) (b:=((0:Int),(0:Int))) (c:=(x,y))
 obtain⟨e1,e2,e3,e4,e5⟩:=vu (a:=(b,(0:Int))) (b:=((0:Int),l)) (c:=(x,y))
 unfold vL
 split
 .next g=>
  unfold wN at g
  rw[aF,bB,s1,s2,aH (show 0<=l*x by omega),aH (show 0<=b*y by omega)]at g
  have g2:zf (b,0) (0,l) (x,y)<0:=by
   have:=g.2
   simp only[Bool.true_and,bO]at this
   omega
  intro T e
  simp only[aJ,aY,or_false]at e
  rcases e with rfl|rfl
  .refine⟨.corner _ _ _ rfl ?_ (λz d=>?_) Oz,by simp,by simp⟩
   .have:zf (b,0) (0,l) (0,0)=b*l:=by unfold zf zJ zL;grind
    have:=Int.mul_pos f i
    omega
   .have a1:=Int.mul_nonneg (show 0<=l by omega) (show 0<=w-b by omega)
    have a2:=Int.mul_nonneg (show 0<=b by omega) (show 0<=r by omega)
    have a3:=Int.mul_nonneg (show 0<=b by omega) (show 0<=h-l by omega)
    have a4:=Int.mul_nonneg (show 0<=l by omega) (show 0<=t by omega)
    have a5:=Int.mul_nonneg (show 0<=b by omega) (show 0<=h by omega)
    simp only[aJ,aY,or_false]at d
    rcases d with rfl|rfl|rfl|rfl|rfl|rfl|rfl<;>unfold zf zJ zL<;>grind
  .exact⟨.cone (0,l) (b,0) Y8 Oz (λz d=>(k z d).join (j z d)) (.inr (.inl rfl)),by simp,by simp⟩
 .rw[Se (w:=(0,0)) (x:=(b,0)) (y:=(x,y)) (z:=(0,l)) Oz Oz,aG rfl]
  intro T e
  simp only[aJ,aY,or_false]at e
  rcases e with rfl|rfl
  .exact⟨.cone (0,0) (b,0) Y8 Oz j (.inr (.inr rfl)),by simp,by simp⟩
  .exact⟨.cone (0,l) (0,0) Y8 Oz k (.inr (.inl rfl)),by simp,by simp⟩
theorem H7:∀T∈vL (b,0) (w,0) (w,r) (x,y),iG (x,y) [(b,0),(w,0)] [(0,0),(0,l),(w,r),(w,h),(t,h),(0,h)] [(0,0),(0,l),(w,r),(w,h),(t,h),(0,h),(b,0)] [(b,0),(w,0),(w,r)] T:=by
 obtain⟨x0,x1⟩:=hB.x;obtain⟨i,y1⟩:=hB.y;obtain⟨b0,b1⟩:=hB.b;obtain⟨r0,r1⟩:=hB.r;obtain⟨t0,t1⟩:=hB.t;obtain⟨l0,l1⟩:=hB.l
 have f:∀z∈[((0:Int),(0:Int)),(0,l),(w,r),(w,h),(t,h),(0,h)],cg (x,y) (b,0) (w,0) z:=λz d=>by
  simp only[aJ,aY,or_false]at d
  rcases d with rfl|rfl|rfl|rfl|rfl|rfl<;>exact zgS hB Oz Oz Oz Oz Oz
 have g:∀z∈[((0:Int),(0:Int)),(0,l),(w,r),(w,h),(t,h),(0,h)],cg (x,y) (w,0) (w,r) z:=λz d=>by
  simp only[aJ,aY,or_false]at d
  rcases d with rfl|rfl|rfl|rfl|rfl|rfl<;>exact W4 hB Oz Oz Oz Oz Oz
 have s1:zf (x,y) (b,0) (w,0)=y*(w-b):=by unfold zf zJ zL;grind
 have s2:zf (x,y) (w,0) (w,r)=(w-x)*r:=by unfold zf zJ zL;grind
 have p1:=Int.mul_pos i (show 0<w-b by omega)
 have p2:=Int.mul_pos (show 0<w-x by omega) r0
 obtain⟨d1,d2,d3,d4,d5⟩:=vu (a:=(x,y)) (b:=(w,(0:Int))) (c:=(w,r))
 unfold vL
 rw[Se (w:=(x,y)) (x:=(b,0)) (y:=(w,0)) (z:=(w,r)) Oz Oz,aG rfl]
 intro T e
 simp only[aJ,aY,or_false]at e
 rcases e with rfl|rfl
 .exact⟨.cone (b,0) (w,0) Y8 Oz f (.inl rfl),by simp,by simp⟩
 .exact⟨.cone (w,0) (w,r) Y8 Oz g (.inr (.inr rfl)),by simp,by simp⟩
theorem H8:∀T∈vL (x,y) (w,r) (w,h) (t,h),iG (x,y) [(w,r),(w,h)] [(0,0),(0,l),(b,0),(w,0),(t,h),(0,h)] [(0,0),(0,l),(b,0),(w,0),(t,h),(0,h),(w,r)] [(w,r),(w,h),(t,h)] T:=by
 obtain⟨x0,x1⟩:=hB.x;obtain⟨y0,y1⟩:=hB.y;obtain⟨b0,b1⟩:=hB.b;obtain⟨r0,r1⟩:=hB.r;obtain⟨t0,t1⟩:=hB.t;obtain⟨l0,l1⟩:=hB.l
 have f:∀z∈[((0:Int),(0:Int)),(0,l),(b,0),(w,0),(t,h),(0,h)],cg (x,y) (w,r) (w,h) z:=λz d=>by
  simp only[aJ,aY,or_false]at d
  rcases d with rfl|rfl|rfl|rfl|rfl|rfl<;>exact W4 hB Oz Oz Oz Oz Oz
 have i:∀z∈[((0:Int),(0:Int)),(0,l),(b,0),(w,0),(t,h),(0,h)],cg (x,y) (w,h) (t,h) z:=λz d=>by
  simp only[aJ,aY,or_false]at d
  rcases d with rfl|rfl|rfl|rfl|rfl|rfl<;>exact zgR hB Oz Oz Oz Oz Oz
 have s1:zf (x,y) (w,r) (w,h)=(w-x)*(h-r):=by unfold zf zJ zL;grind
 have s2:zf (x,y) (w,h) (t,h)=(h-y)*(w-t):=by unfold zf zJ zL;grind
 have p1:=Int.mul_pos (show 0<w-x by omega) (show 0<h-r by omega)
 have p2:=Int.mul_pos (show 0<h-y by omega) (show 0<w-t by omega)
 obtain⟨d1,d2,d3,d4,d5⟩:=vu (a:=(x,y)) (b:=(w,h)) (c:=(t,h))
 obtain⟨e1,e2,e3,e4,e5⟩:=vu (a:=(t,h)) (b:=(x,y)) (c:=(w,r))
 unfold vL
 split
 .next g=>
  unfold wN at g
  rw[aF]at g
  have g1:0<zf (t,h) (x,y) (w,r):=cO g.1
  intro T e
  simp only[aJ,aY,or_false]at e
  rcases e with rfl|rfl
  .exact⟨.cone (w,r) (t,h) Y8 Oz (λz d=>(f z d).join (i z d)) (.inr (.inl rfl)),by simp,by simp⟩
  .refine⟨.corner _ _ _ rfl ?_ (λz d=>?_) Oz,by simp,by simp⟩
   .have:zf (t,h) (w,r) (w,h)=(h-r)*(w-t):=by unfold zf zJ zL;grind
    have:=Int.mul_pos (show 0<h-r by omega) (show 0<w-t by omega)
    omega
   .have a1:=Int.mul_nonneg (show 0<=w-t by omega) (show 0<=h by omega)
    have a2:=Int.mul_nonneg (show 0<=h-r by omega) (show 0<=t by omega)
    have a3:=Int.mul_nonneg (show 0<=w-t by omega) (show 0<=h-l by omega)
    have a4:=Int.mul_nonneg (show 0<=h-r by omega) (show 0<=w-b by omega)
    have a5:=Int.mul_nonneg (show 0<=w-t by omega) (show 0<=r by omega)
    simp only[aJ,aY,or_false]at d
    rcases d with rfl|rfl|rfl|rfl|rfl|rfl|rfl<;>unfold zf zJ zL<;>grind
 .rw[Se (w:=(x,y)) (x:=(w,r)) (y:=(w,h)) (z:=(t,h)) Oz Oz,aG rfl]
  intro T e
  simp only[aJ,aY,or_false]at e
  rcases e with rfl|rfl
  .exact⟨.cone (w,r) (w,h) Y8 Oz f (.inl rfl),by simp,by simp⟩
  .exact⟨.cone (w,h) (t,h) Y8 Oz i (.inl rfl),by simp,by simp⟩
theorem Ia:∀T∈vL (0,l) (x,y) (t,h) (0,h),iG (x,y) [(t,h),(0,h)] [(0,0),(0,l),(b,0),(w,0),(w,r),(w,h)] [(0,0),(0,l),(b,0),(w,0),(w,r),(w,h),(t,h)] [(t,h),(0,h),(0,l)] T:=by
 obtain⟨i,x1⟩:=hB.x;obtain⟨y0,y1⟩:=hB.y;obtain⟨b0,b1⟩:=hB.b;obtain⟨r0,r1⟩:=hB.r;obtain⟨t0,t1⟩:=hB.t;obtain⟨l0,l1⟩:=hB.l
 have f:∀z∈[((0:Int),(0:Int)),(0,l),(b,0),(w,0),(w,r),(w,h)],cg (x,y) (t,h) (0,h) z:=λz d=>by
  simp only[aJ,aY,or_false]at d
  rcases d with rfl|rfl|rfl|rfl|rfl|rfl<;>exact zgR hB Oz Oz Oz Oz Oz
 have g:∀z∈[((0:Int),(0:Int)),(0,l),(b,0),(w,0),(w,r),(w,h)],cg (x,y) (0,h) (0,l) z:=λz d=>by
  simp only[aJ,aY,or_false]at d
  rcases d with rfl|rfl|rfl|rfl|rfl|rfl<;>exact zcw hB Oz Oz Oz Oz Oz
 have s1:zf (0,h) (0,l) (x,y)=x*(h-l):=by unfold zf zJ zL;grind
 have s2:zf (x,y) (t,h) (0,h)=(h-y)*t:=by unfold zf zJ zL;grind
 have p1:=Int.mul_pos i (show 0<h-l by omega)
 have p2:=Int.mul_pos (show 0<h-y by omega) t0
 obtain⟨c1,c2,-,-,-⟩:=vu (a:=((0:Int),h)) (b:=((0:Int),l)) (c:=(x,y))
 obtain⟨d1,d2,d3,d4,d5⟩:=vu (a:=(x,y)) (b:=(t,h)) (c:=((0:Int),h))
 unfold vL
 rw[Se (w:=(0,h)) (x:=(0,l)) (y:=(x,y)) (z:=(t,h)) Oz Oz,aG rfl]
 intro T e
 simp only[aJ,aY,or_false]at e
 rcases e with rfl|rfl
 .exact⟨.cone (0,h) (0,l) Y8 Oz g (.inr (.inr rfl)),by simp,by simp⟩
 .exact⟨.cone (t,h) (0,h) Y8 Oz f (.inl rfl),by simp,by simp⟩
end
def bU(c:Int×Int×Rat):Ed:=⟨c.1.toNat,c.2.1.toNat,c.2.2⟩
def fx(x:List Rat)(v:Nat):Rat:=x.getD v 0
theorem Qb{x:List Rat}{v:Nat}(h:v<x.length):ae x (v:Int)=some (fx x v):=by
 rw[zu h,fx,aB,aE h];rfl
theorem RY{x:List Rat}{k v:Nat}{q:Rat}(h:k<x.length):fx (x.set k q) v=if k=v then q else fx x v:=by
 unfold fx
 rw[aB,aB]
 split
 .next e=>subst e;rw[List.getElem?_set_self h];rfl
 .next e=>rw[List.getElem?_set_ne e]
theorem zhC(a b:Rat):decide (kV a b<0)=decide (a<b):=by
 unfold kV
 split
 .next h=>rw[aH h];rfl
 .next h=>rw[aX h];split<;>rfl
section
variable{n d B:Nat}{L:List (Int×Int×Rat)}(hL:L.length<=60)(hi:∀c∈L,(0<=c.1/\c.1<(n:Int)/\0<=c.2.1/\c.2.1<(n:Int))/\QV d B c.2.2)
include hi in
theorem Kr:∀c∈L.map bU,c.fr<n/\c.to<n:=by
 intro c hc
 obtain⟨e,he,rfl⟩:=List.mem_map.mp hc
 have:=(hi e he).1
 exact⟨by show e.1.toNat<n;omega,by show e.2.1.toNat<n;omega⟩
include hL hi in
theorem zcX(h0:0<n)(h12:n<=12)(hs:SB d (B*((n+1)*60+1))) :
 (∃x,sH ((n:Int),L)=some (x,true)/\x.length=n/\Rx (L.map bU) n (fx x)/\UB (L.map bU) n 0 (fx x)/\eu (L.map bU) (fx x)/\∀v,v<n->QV d (B*((n+1)*60)) (fx x v)) \/
 (sH ((n:Int),L)=some ([],false)/\¬ ∃y,eu (L.map bU) y):=by
 have A:=Kr hi
 have K:(L.map bU).length=L.length:=bI _
 unfold sH
 dsimp only
 rw[aG Oz,zo Oz,aA,Int.toNat_natCast]
 have f0:fx (List.replicate n ((0:Int):Rat))=λ_=>0:=by
  funext v
  unfold fx
  rw[aB,List.getElem?_replicate]
  split<;>rfl
 refine zl (n+1) (λi (x:Int×List Rat)=>x.1=(i:Int)/\x.2.length=n/\Rx (L.map bU) n (fx x.2)/\UB (L.map bU) n i (fx x.2)/\((∃y,eu (L.map bU) y)->i<n)/\∀v,v<n->QV d (B*(i*60)) (fx x.2 v))
  (λo=>(∃x,o=some (x,true)/\x.length=n/\Rx (L.map bU) n (fx x)/\UB (L.map bU) n 0 (fx x)/\eu (L.map bU) (fx x)/\∀v,v<n->QV d (B*((n+1)*60)) (fx x v))\/(o=some ([],false)/\¬ ∃y,eu (L.map bU) y)) Oz ⟨rfl,dE,by show Rx _ _ (fx (List.replicate n ((0:Int):Rat)));rw[f0];exact Rx.zero,by show UB _ _ _ (fx (List.replicate n ((0:Int):Rat)));rw[f0];exact UB.zero,λ_=>h0,λv _=>?_⟩ ?_ ?_
 .show QV d _ (fx (List.replicate n ((0:Int):Rat)) v)
  rw[f0]
  exact⟨0,by simp,by simp⟩
 .rintro i ⟨_,x⟩ g F ⟨rfl,hx,G,hu,hf,I⟩ hg
  dsimp only at hx G hu hf I |-
  rw[aG (by rw[aC];omega)]
  refine zl L.length (λj (y:Bool×Int×List Rat)=>y.2.1=(j:Int)/\y.2.2.length=n/\Rx (L.map bU) n (fx y.2.2)/\(∀v,v<n->fx y.2.2 v<=fx x v)/\(∀c∈(L.map bU).take j,fx y.2.2 c.to<=fx x c.fr+c.m)/\(y.1=false->y.2.2=x)/\(eu (L.map bU) (fx x)->y.1=false)/\∀v,v<n->QV d (B*(i*60+j)) (fx y.2.2 v))
   (λo=>(∃x,o=some (x,true)/\x.length=n/\Rx (L.map bU) n (fx x)/\UB (L.map bU) n 0 (fx x)/\eu (L.map bU) (fx x)/\∀v,v<n->QV d (B*((n+1)*60)) (fx x v))\/(o=some ([],false)/\¬ ∃y,eu (L.map bU) y)) Oz ⟨rfl,hx,G,λ_ _=>dH,λc h=>(by simp at h),λ_=>rfl,λ_=>rfl,λv hv=>I v hv⟩ ?_ ?_
  .rintro j ⟨N,_,y⟩ S hj ⟨rfl,C,q,hle,f,s,l,p⟩ E
   dsimp only at C q hle f s l p |-
   obtain⟨⟨a0,a1,R,b1⟩,hm⟩:=hi L[j] (aL hj)
   obtain⟨a,ha⟩:=Int.eq_ofNat_of_zero_le a0
   obtain⟨b,hb⟩:=Int.eq_ofNat_of_zero_le R
   have t:a<n/\b<n:=by omega
   have O:bU L[j]=⟨a,b,L[j].2.2⟩:=by unfold bU;rw[ha,hb];rfl
   have w:bU L[j]∈L.map bU:=eY (aL hj)
   rw[O]at w
   have H:(L.map bU).take (j+1)=(L.map bU).take j++[⟨a,b,L[j].2.2⟩]:=by
    rw[<-O,List.take_succ_eq_append_getElem Oz,List.getElem_map]
   have P:QV d (B*(i*60+j)) (fx y a):=p a t.1
   have U:QV d (B*(i*60+j)) (fx y b):=p b t.2
   have hB:i*60+j+1<=(n+1)*60:=by
    have:(i+1)*60<=(n+1)*60:=bQ 60 F
    omega
   have Q:QV d (B*(i*60+(j+1))) (fx y a+L[j].2.2):=by
    have:=P.add hm
    rw[<-Nat.mul_succ]at this
    exact this
   have J:∀k,k<=(n+1)*60+1->SB d (B*k):=λk hk=>⟨hs.1,cD (cI _ (Nat.succ_le_succ (cI _ hk))) hs.2⟩
   have s1:=P.sm (J _ Oz)
   have s2:=U.sm (J _ Oz)
   have V:=Q.sm (J _ Oz)
   have W:Sm L[j].2.2:=hm.sm (by have:=J 1 Oz;rw[cG]at this;exact this)
   rw[aG (zV hj),zu hj,aA,ha,hb,Qb Oz,Qb Oz,aA,aA,yE s1 W,aA,aA,aA,yW V s2,aA,zhC]
   by_cases c:fx y a+L[j].2.2<fx y b
   .rw[aG (aH c),aA,aA,zo Oz,aA,yQ,Int.toNat_natCast]
    have low:∀v,v<n->fx (y.set b (fx y a+L[j].2.2)) v<=fx y v:=λv _=>by
     rw[RY Oz]
     split
     .next e=>rw[<-e];exact Rat.le_of_lt c
     .exact dH
    refine E _ ⟨rfl,by rw[bR];exact C,⟨λv hv=>?_⟩,λv hv=>dP (low v hv) (hle v hv),λe he=>?_,λh=>(by cases h),λh=>?_,λv hv=>?_⟩
    .rw[RY Oz]
     split
     .next e=>
      subst e
      obtain⟨r,u,hp,he⟩:=q.way a t.1
      exact⟨⟨a,b,L[j].2.2⟩::r,u,⟨rfl,w,hp⟩,by rw[wt,he,Rat.add_comm]⟩
     .exact q.way v hv
    .rw[H]at he
     rcases aW.mp he with he|he
     .exact dP (low _ (A e (List.mem_of_mem_take he)).2) (f e he)
     .rw[bC.mp he]
      show fx _ b<=fx x a+_
      rw[RY Oz,aG rfl]
      exact Yc (hle a t.1)
    .exfalso
     have e:=s (l h)
     have:=h _ w
     rw[e]at c
     exact absurd c (Rat.not_lt.mpr this)
    .rw[RY Oz]
     split
     .exact Q
     .exact(p v hv).le (cI _ Oz)
   .rw[aD (by rw[aC];exact c),zo Oz,aA]
    refine E _ ⟨rfl,C,q,hle,λe he=>?_,s,l,λv hv=>(p v hv).le (cI _ Oz)⟩
    rw[H]at he
    rcases aW.mp he with he|he
    .exact f e he
    .rw[bC.mp he]
     show fx y b<=fx x a+_
     exact dP (Rat.not_lt.mp c) (Yc (hle a t.1))
  .rintro⟨N,_,y⟩ S ⟨rfl,C,q,hle,f,s,l,p⟩
   dsimp only at C q hle f s l p |-
   rw[aD Y8]
   have z:∀c∈L.map bU,fx y c.to<=fx x c.fr+c.m:=λc hc=>f c (by rw[<-K,bE];exact hc)
   cases N with
   |false=>
    obtain rfl:=s rfl
    rw[aG (show(!false)=true from rfl)]
    refine .inl ⟨y,rfl,C,q,λv r u a b c=>hu v r u a b Oz,z,λv hv=>(p v hv).le (cI _ ?_)⟩
    have:(i+1)*60<=(n+1)*60:=bQ 60 F
    omega
   |true=>
    rw[aD (show ¬(!true)=true by decide),zo Oz,aA]
    refine hg _ ⟨rfl,C,q,?_,λD=>?_,λv hv=>(p v hv).le (cI _ Oz)⟩
    .intro v r u hv hp M
     cases r with
     |nil=>exact dP (hle v hv) (hu v [] u hv hp (cH _))
     |cons c r=>
      obtain⟨p1,p2,T⟩:=hp
      have:=z c p2
      rw[p1]at this
      refine dP this ?_
      rw[wt,Rat.add_comm c.m]
      exact Yc (hu c.fr r u (A c p2).1 T (by simp at M;omega))
    .apply cX
     intro hc
     obtain⟨y',D⟩:=D
     have:=l (done A D G hu Oz)
     cases this
 .rintro⟨_,x⟩ g ⟨rfl,hx,G,hu,hf,I⟩
  dsimp only at hx G hu hf I |-
  rw[aD (by rw[aC];omega)]
  exact .inr ⟨rfl,λh=>by have:=hf h;omega⟩
end
end Go.Proofs.YtocnbjjmmgolfaaGreat
