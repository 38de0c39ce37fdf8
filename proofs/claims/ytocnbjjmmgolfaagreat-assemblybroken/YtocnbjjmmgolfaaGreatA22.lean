/- Plain law of the number packages: fractions of the program. -/
import Derived.Test.YtocnbjjmmgolfaaGreatA21
set_option linter.unusedSimpArgs false
set_option linter.unusedVariables false
set_option linter.unusedSectionVars false
namespace Go.Proofs.YtocnbjjmmgolfaaGreat
open Go Go.M Go.Proofs.C14
theorem AO{la lb:List Int}(ha:b8 la)(hb:b8 lb)(la2:la.length<=2)(lb2:lb.length<=2)(s t:Bool) :
 gy (s,la) (t,lb)=some (zG (sg (!(s==t)) (z5 la*z5 lb))):=by
 unfold gy
 dsimp only
 by_cases f:la.length=1/\lb.length=1
 .obtain⟨h1,h2⟩:=f
  obtain⟨x,rfl⟩:=List.length_eq_one_iff.mp h1
  obtain⟨y,rfl⟩:=List.length_eq_one_iff.mp h2
  have j:=ha x Y8
  have d:=hb y Y8
  have hp:0<=x*y:=Int.mul_nonneg j.1 d.1
  have hq:x*y<=999999999*999999999:=Int.mul_le_mul Oz Oz d.1 Uz
  have e:z5 [x]*z5 [y]=(x*y).toNat:=by
   show(x.toNat+1000000000*0)*(y.toNat+1000000000*0)=_
   rw[Nat.mul_zero,bM,bM,Int.toNat_mul j.1 d.1]
  rw[aG (by rfl),aG (by rfl),show ae [x] 0=some x from rfl,show ae [y] 0=some y from rfl,aA,aA,show x % 18446744073709551616=x by omega,show y % 18446744073709551616=y by omega,e]
  generalize x*y=p at *
  obtain⟨n,rfl⟩:=Int.eq_ofNat_of_zero_le hp
  rw[uZ,aG Oz,aA,wY Oz,Int.toNat_natCast]
  rfl
 rw[Tu (by rw[aC,aC];omega)]
 have l:(la.length:Int)+(lb.length:Int)=((la.length+lb.length:Nat):Int):=by omega
 rw[l,xW Oz,aA,aG Oz,Int.toNat_natCast]
 refine zl la.length (λi (x:Int×List Int)=>x.1=(i:Int)/\MI la lb i 0 0 x.2) (λo=>o=some (zG (sg (!(s==t)) (z5 la*z5 lb)))) Oz ⟨rfl,MI.start la lb⟩ ?_ ?_
 .rintro i ⟨x,out⟩ g hi ⟨rfl,b⟩ hg
  have b:MI la lb i 0 0 out:=b
  dsimp only
  rw[aG (zV hi),xy hi,aA]
  refine zl lb.length (λk (y:Int×Int×List Int)=>y.2.1=(k:Int)/\MI la lb i k y.1 y.2.2) (λo=>o=some (zG (sg (!(s==t)) (z5 la*z5 lb)))) Oz ⟨rfl,b⟩ ?_ ?_
  .rintro k ⟨c,y,o⟩ m hk ⟨rfl,a⟩ h
   have a:MI la lb i k c o:=a
   obtain⟨w,hw⟩:∃w,w=o.getD (i+k) 0+la.getD i 0*lb.getD k 0+c:=⟨_,rfl⟩
   obtain⟨w0,w1,o0,o1⟩:=a.w ha hb
   have c0:=a.c0
   have c1:=a.c1
   have hl:=a.len
   have e1:(i:Int)+(k:Int)=((i+k:Nat):Int):=by omega
   have e2:w-w / 1000000000*1000000000=w % 1000000000:=by omega
   have q:=h (w / 1000000000,((k+1:Nat):Int),o.set (i+k) (w % 1000000000)) ⟨rfl,a.step ha hb hi hk hw⟩
   dsimp only
   rw[aG (zV hk),e1]
   simp only[xW (show((i+k:Nat):Int).natAbs<_ by omega),aA,xy (show i+k<o.length by omega),xy hk,xW (show(la.getD i 0*lb.getD k 0).natAbs<_ by omega),xW (show(o.getD (i+k) 0+la.getD i 0*lb.getD k 0).natAbs<_ by omega),<-hw,xW (show w.natAbs<_ by omega),aD (show ¬(1000000000:Int)=0 by decide),U4 (show 0<=w by omega),xW (show(w / 1000000000).natAbs<_ by omega),xW (show(w / 1000000000*1000000000).natAbs<_ by omega),e2,xW (show(w % 1000000000).natAbs<_ by omega),zo (show k<100000 by omega),yQ,Int.toNat_natCast]
   exact q
  .rintro⟨c,y,o⟩ m ⟨rfl,a⟩
   have a:MI la lb i lb.length c o:=a
   have hl:=a.len
   have e1:(i:Int)+(lb.length:Int)=((i+lb.length:Nat):Int):=by omega
   dsimp only
   rw[aD Y8,e1]
   simp only[xW (show((i+lb.length:Nat):Int).natAbs<_ by omega),aA,xy (show i+lb.length<o.length by omega),zo (show i<100000 by omega),yQ,Int.toNat_natCast]
   exact hg _ ⟨rfl,a.next hi⟩
 .rintro⟨x,out⟩ g ⟨rfl,b⟩
  have b:MI la lb la.length 0 0 out:=b
  have hl:=b.len
  dsimp only
  rw[aD Y8,Rk b.dig Oz,b.fin ha hb]
  rfl
theorem v8{a b:Int}(ha:cz a)(hb:cz b):gy (zG a) (zG b)=some (zG (a*b)):=by
 have:=AO (kU a.natAbs) (kU b.natAbs) (xv ha) (xv hb) (decide (a<0)) (decide (b<0))
 rw[yy,yy,rP]at this
 exact this
theorem J4{m:Nat}(h:m<1000000000000000000):IX (dg m)=some ((m:Int),true):=by
 unfold IX
 rcases VH h with⟨h0,e⟩|⟨h0,h1,e⟩|⟨h1,e⟩<;>rw[e]
 .rw[aG (by rfl),h0];rfl
 .rw[aD Y8,aG (by rfl),show ae [((m % 1000000000:Nat):Int)] 0=some ((m % 1000000000:Nat):Int)from rfl,Nat.mod_eq_of_lt Oz];rfl
 .have h2:((m % 1000000000:Nat):Int)+1000000000*((m / 1000000000:Nat):Int)=m:=by omega
  have h3:((m / 1000000000:Nat):Int).natAbs<1000000000:=by omega
  have h4:((m % 1000000000:Nat):Int).natAbs<1000000000:=by omega
  generalize ((m % 1000000000:Nat):Int)=a at *
  generalize ((m / 1000000000:Nat):Int)=b at *
  rw[aD Y8,aD Y8,aG (by rfl),show ae [a,b] 1=some b from rfl,show ae [a,b] 0=some a from rfl,aA,xW (x:=b*1000000000) Oz,aA,aA,xW (x:=b*1000000000+a) Oz,aA,show b*1000000000+a=m by omega]
theorem Ie{n:Nat}(h:n<1000000000000000000):Q9 false ((n:Int) % 18446744073709551616)=some (zG (n:Int)):=by
 rw[show(n:Int) % 18446744073709551616=(n:Int)by omega,wY h,Ri]
theorem zhr{a b:Int}(ha:cz a)(hb:cz b)(h0:b≠0):sI (zG a) (zG b)=some (zG (Nat.gcd a.natAbs b.natAbs:Nat)):=by
 unfold sI
 rw[show uU false (zG a).2=_ from Fa a.natAbs ha false,show uU false (zG b).2=_ from Fa b.natAbs hb false,aA,aA,Ri,Ri,xX,xX,zF 2,ze]
 have l0:(dg b.natAbs).length≠0:=λh=>by have:=bl.mp h;omega
 have hg:=QY (m:=a.natAbs) hb Oz
 dsimp only
 rw[aG (by rw[aC];omega),J4 ha,J4 hb,aA,aA,aG rfl,aG rfl,zF 130]
 rw[zfq (λx=>(Q9 false (x % 18446744073709551616)).bind λc=>some c) (λg m=>aD Y8) (λg m n hn=>by rw[aG (by rw[aC];show(0:Int)<n;omega),aD (by show ¬(n:Int)=0;omega)];rfl) 60 a.natAbs b.natAbs 130 (Nat.lt_trans hb Uz) Uz]
 rw[Ie hg]
 rfl
theorem Yq{n:Int}(hn:cz n):JY (zG n)=some (decide (n=1)):=by
 unfold JY
 show(if (!decide (n<0))=true then(if decide (((dg n.natAbs).length:Int)=1)=true then(ae (dg n.natAbs) 0).bind _ else _)else _)=_
 by_cases h:n<0
 .rw[aH h,aD Uz,aX Oz]
 rw[aX h,aG (by rfl)]
 rcases VH hn with⟨h0,e⟩|⟨h0,h1,e⟩|⟨h1,e⟩<;>rw[e]
 .rw[aD Y8,aX Oz]
 .rw[aG (by rfl),show ae [((n.natAbs % 1000000000:Nat):Int)] 0=some ((n.natAbs % 1000000000:Nat):Int)from rfl,aA]
  congr 1
  rw[decide_eq_decide]
  omega
 .rw[aD Y8,aX Oz]
theorem lk{m n:Nat}(hm:m<1000000000000000000)(hn:n<1000000000000000000)(h0:n≠0):IV (dg m) (dg n)=some (zG ((m / n:Nat):Int),zG ((m % n:Nat):Int)):=by
 unfold IV
 have a:m / n<1000000000000000000:=cD (Nat.div_le_self m n) hm
 have c:m % n<1000000000000000000:=cD (Nat.mod_le m n) hm
 have eq:Int.tdiv (m:Int) (n:Int)=((m / n:Nat):Int):=rfl
 have b:Int.tmod (m:Int) (n:Int)=((m % n:Nat):Int):=rfl
 rw[J4 hm,aA,aG rfl,J4 hn,aA,aG rfl]
 dsimp only
 rw[aD Oz,eq,Vo a,aA,aD Oz,b,Ie a,aA,Ie c,aA]
theorem zhv{a g:Int}(ha:cz a)(hg:0<g)(b:cz g)(hd:g∣a):sJ (zG a) (zG g)=some (zG (a / g),zG 0):=by
 unfold sJ
 have hm:a.natAbs % g.natAbs=0:=Nat.mod_eq_zero_of_dvd (Int.natAbs_dvd_natAbs.mpr hd)
 have f:¬(decide (((zG g).2.length:Int)=0))=true:=by
  have:(zG g).2.length≠0:=λh=>by have:=bl.mp h;omega
  rw[aC];omega
 rw[aD f,show IV (zG a).2 (zG g).2=_ from lk ha b Oz,aA,hm]
 have hs:sg (!(decide (a<0)==decide (g<0))) (a.natAbs / g.natAbs)=a / g:=rO hg hd
 have e:(zG g).1=false:=aX Oz
 have d:zG ((0:Nat):Int)=(false,[]):=kB
 rw[aX (show ¬g<0 by omega)]at hs
 dsimp only
 rw[e,d,<-kB]
 show(if decide (a<0)=true then _ else _)=_
 generalize a.natAbs / g.natAbs=q at hs
 by_cases h:a<0
 .have ea:(zG a).1=true:=aH h
  rw[aH h]at hs |-
  rw[aG rfl,kB,aD Y8,ea,aG (by rfl),<-hs,xX]
  by_cases c:q=0
  .subst c;rw[show sg (!(true==false)) 0=0 from rfl,kB,qw];rfl
  .have:(dg q).length≠0:=λh=>c (bl.mp h)
   rw[zaZ c]
   show some ((decide (0<((dg q).length:Int)),dg q),_)=_
   rw[aH Oz];rfl
 .have ea:(zG a).1=false:=aX h
  rw[aX h]at hs |-
  rw[aD Uz,ea,aD Uz,<-hs,xX,show sg (!(false==false)) q=(q:Int)from rfl,xX,kB]
theorem zax(n:Int):mS (zG n)=some (zG (-n)):=by
 unfold mS
 show(if (!decide (n<0))=true then some (decide (0<((dg n.natAbs).length:Int)),dg n.natAbs)else some (false,dg n.natAbs))=some (decide (-n<0),dg (-n).natAbs)
 rw[Int.natAbs_neg]
 have hl:=bl (n:=n.natAbs)
 by_cases h:n<0
 .rw[aH h,aD Uz,aX Oz]
 .rw[aX h,aG (by rfl)]
  congr 2
  rw[decide_eq_decide]
  omega
theorem Za{P U:Int}(a:cz U):FN (zG P) (zG U)=some (zG (if U<0 then -P else P),if decide ((if U<0 then -U else U)=1)=true then(false,[])else zG (if U<0 then -U else U)):=by
 unfold FN
 show(if decide (U<0)=true then _ else _)=_
 by_cases h:U<0
 .rw[aG (aH h),aG h,aG h,zax,zax,aA,aA,Yq (zgI a),aA]
  split<;>rfl
 .rw[aD (by rw[aC];exact h),aD h,aD h,Yq a,aA]
  split<;>rfl
theorem zdk{q:Rat}{z:Int}(h:(q.den:Int)=z):(if q.den=1 then(false,([]:List Int))else zG (q.den:Int))=if decide (z=1)=true then(false,[])else zG z:=by
 subst h
 by_cases h:q.den=1
 .rw[aG h,aG (aH Oz)]
 .rw[aD h,aD (by rw[aC];omega)]
theorem YK{p q:Int}(hp:cz p)(a:cz q)(h0:q≠0):tO (zG p) (zG q)=some (yg (Rat.divInt p q)):=by
 unfold tO
 have lq:(zG q).2.length≠0:=λh=>by have:=bl.mp h;omega
 rw[aD (by rw[aC];omega)]
 by_cases c:p=0
 .subst c
  rw[aG (by rw[kB];rfl),Rat.zero_divInt,kL,aG (show(0:Rat).den=1 from rfl),show(0:Rat).num=0 from rfl,kB]
 have lp:(zG p).2.length≠0:=λh=>by have:=bl.mp h;omega
 rw[aD (by rw[aC];omega),zhr hp a h0,aA]
 have hg:=QY (m:=p.natAbs) a Oz
 have hgp:=zaI (p:=p) h0
 have e1:=Zr (p:=p) h0
 have e2:=zds (p:=p) h0
 have b:=YV (p:=p) h0
 have d1:((Nat.gcd p.natAbs q.natAbs:Nat):Int)∣p:=Int.ofNat_dvd_left.mpr (Nat.gcd_dvd_left _ _)
 have d2:((Nat.gcd p.natAbs q.natAbs:Nat):Int)∣q:=Int.ofNat_dvd_left.mpr (Nat.gcd_dvd_right _ _)
 generalize Nat.gcd p.natAbs q.natAbs=G at *
 rw[Yq (iy hg),aA,kL,zdk e2,e1]
 simp only[<-b]
 by_cases h1:G=1
 .subst h1
  rw[aD Uz,Za a,aA,Int.natCast_one,Int.ediv_one,Int.ediv_one]
 .rw[aG (by rw[aX Oz];rfl),zhv hp Oz (iy hg) d1,zhv a Oz (iy hg) d2,aA,aA,Za (KA a d2),aA]
theorem Ot:B1=some (zG 1):=by unfold B1;rw[KX Uz];rfl
theorem wv(q:Rat):fW (yg q)=some (zG (q.den:Int)):=by
 unfold fW
 rw[kL]
 by_cases hd:q.den=1
 .rw[aG hd,aG (by rfl),Ot,hd];rfl
 .have hl:(zG (q.den:Int)).2.length≠0:=λg=>by rw[xX]at g;exact q.den_nz (bl.mp g)
  rw[aD hd,aD (by rw[aC];show ¬(((zG (q.den:Int)).2.length:Int)=0);omega)]
theorem gL(q:Rat):decide (((yg q).2.2.length:Int)=0)=decide (q.den=1):=by
 rw[decide_eq_decide,kL]
 by_cases hd:q.den=1
 .rw[aG hd];exact⟨λ_=>hd,λ_=>rfl⟩
 .have hl:(zG (q.den:Int)).2.length≠0:=λg=>by rw[xX]at g;exact q.den_nz (bl.mp g)
  rw[aD hd];exact⟨λh=>absurd h (show ¬(((zG (q.den:Int)).2.length:Int)=0)by omega),λh=>absurd h hd⟩
theorem Yd(q:Rat):decide (((yg q).1.2.length:Int)=0)=decide (q=0):=by
 rw[decide_eq_decide]
 have:(yg q).1.2.length=0↔q.num=0:=bl.trans Int.natAbs_eq_zero
 rw[<-Rat.num_eq_zero,<-this]
 omega
theorem uw{q:Rat}(h:q.den=1):yg q=(zG q.num,false,[]):=by rw[kL,aG h]
theorem nE{a b:Rat}(h:S2 a b):RK (yg a) (yg b)=some (yg (a+b)):=by
 unfold RK
 have h1:=h.2.1
 have h2:=h.2.2.1
 have h3:=h.2.2.2
 have e:((a.den:Int)*(b.den:Int))=((a.den*b.den:Nat):Int):=(Int.natCast_mul ..).symm
 rw[gL,gL,Yd,Yd,wv,wv,kC,kC]
 by_cases hw:a.den=1/\b.den=1
 .obtain⟨e1,e2⟩:=vc hw.1 hw.2
  rw[aG (aH hw.1),aG (aH hw.2),zhU h.1.1.n h.1.2.n,aA,uw e2,e1]
 rw[Tu (by rw[aC,aC];exact hw)]
 by_cases a0:a=0
 .subst a0;rw[aG (by rfl),Rat.zero_add]
 rw[aD (by rw[aC];exact a0)]
 by_cases c:b=0
 .subst c;rw[aG (by rfl),Rat.add_zero]
 rw[aD (by rw[aC];exact c),aA,aA,v8 h.1.1.n h.1.2.d,aA,v8 h.1.2.n h.1.1.d,aA,zhU (by unfold cz;omega) (by unfold cz;omega),aA,v8 h.1.1.d h.1.2.d,aA,YK (by unfold cz;omega) (by rw[e];exact iy Oz) (ox a b),aA,zhR]
theorem pJ(a:Rat):B0 (yg a)=some (yg (-a)):=by
 unfold B0
 rw[kC,zax,aA,kL (-a),kL a,Rat.neg_num,Rat.neg_den]
theorem HS{a b:Rat}(h:S2 a b):Zi (yg a) (yg b)=some (yg (a-b)):=by
 unfold Zi
 rw[pJ,aA,nE h.neg,aA,Rat.sub_eq_add_neg]
theorem pE{a b:Rat}(ha:Sm a)(hb:Sm b):BX (yg a) (yg b)=some (yg (a*b)):=by
 unfold BX
 rw[gL,gL,Yd,Yd,wv,wv,kC,kC]
 by_cases a0:a=0
 .subst a0;rw[aG (by rfl),Rat.zero_mul];rw[uw rfl,show(0:Rat).num=0 from rfl,kB]
 rw[aD (by rw[aC];exact a0)]
 by_cases f:b=0
 .subst f;rw[aG (by rfl),Rat.mul_zero];rw[uw rfl,show(0:Rat).num=0 from rfl,kB]
 rw[aD (by rw[aC];exact f)]
 by_cases hw:a.den=1/\b.den=1
 .obtain⟨e1,e2⟩:=AR hw.1 hw.2
  rw[aG (aH hw.1),aG (aH hw.2),v8 ha.n hb.n,aA,uw e2,e1]
 rw[Tu (by rw[aC,aC];exact hw)]
 have da:=a.den_nz
 have db:=b.den_nz
 obtain⟨m1,m2⟩:=zeS a b
 have g:=ee (n:=a.num) (d:=b.den)
 have h:=ee (n:=b.num) (d:=a.den)
 have c:=ha.1
 have ha2:=ha.2
 have hb1:=hb.1
 have hb2:=hb.2
 have i:(mkRat a.num b.den).num.natAbs<500000000:=cD g.1 c
 have x2:(mkRat a.num b.den).den<500000000:=by have:=g.2;omega
 have j:(mkRat b.num a.den).num.natAbs<500000000:=cD h.1 hb1
 have k:(mkRat b.num a.den).den<500000000:=by have:=h.2;omega
 have sx:Sm (mkRat a.num b.den):=⟨i,x2⟩
 have sy:Sm (mkRat b.num a.den):=⟨j,k⟩
 have h3:=sx.dd sy
 rw[aA,YK ha.n hb.d Oz,aA,aA,YK hb.n ha.d Oz,aA,Rat.divInt_ofNat,Rat.divInt_ofNat,kC,kC,v8 sx.n sy.n,aA,wv,wv,aA,aA,v8 sx.d sy.d,aA]
 have e:(((mkRat a.num b.den).den:Int)*((mkRat b.num a.den).den:Int))=((a*b).den:Int):=by rw[m2,Int.natCast_mul]
 have hn:¬((a*b).den:Int)<0:=by omega
 rw[<-m1,e,Za (U:=((a*b).den:Int)) (iy (by rw[m2];omega)),aA]
 simp only[aD hn]
 rw[kL,zdk rfl]
theorem zdx{m n:Int}(hm:cz m)(hn:cz n):mT (zG m) (zG n)=some (yz m n):=by
 unfold mT
 have a:=xv hm
 have b:=xv hn
 have e1:Xc (zG n).2 (zG m).2=some (uQ n.natAbs m.natAbs):=(VN b).trans (by rw[<-Zk];rfl)
 have e2:Xc (zG m).2 (zG n).2=some (uQ m.natAbs n.natAbs):=(VN a).trans (by rw[<-Zk];rfl)
 rw[e1,e2,aA,aA]
 show(if (!(decide (m<0)==decide (n<0)))=true then(if decide (m<0)=true then _ else(if (!(decide (m<0)==decide (n<0)))=true then _ else _))else(if (!(decide (m<0)==decide (n<0)))=true then _ else(if decide (m<0)=true then _ else _)))=_
 by_cases h1:m<0<;>by_cases h2:n<0
 .rw[aH h1,aH h2,aD Uz,aD Uz,aG rfl]
  congr 1
  unfold uQ yz
  split<;>split<;>(try split)<;>(try split)<;>first|rfl|omega
 .rw[aH h1,aX h2,aG Uz,aG rfl,yz,aG Oz]
 .rw[aX h1,aH h2,aG Uz,aD Uz,aG Uz,yz,aD Oz,aG Oz]
 .rw[aX h1,aX h2,aD Uz,aD Uz,aD Uz]
  congr 1
  unfold uQ yz
  split<;>split<;>(try split)<;>(try split)<;>first|rfl|omega
theorem Kw(a:Rat):sX (yg a)=some (yz a.num 0):=by
 unfold sX Iv
 rw[kC]
 show((if decide (a.num<0)=true then _ else(if decide (((dg a.num.natAbs).length:Int)=0)=true then _ else _)):Option Int).bind _=_
 have hl:=bl (n:=a.num.natAbs)
 unfold yz
 by_cases h:a.num<0
 .rw[aG (aH h),aG h];rfl
 .rw[aD (by rw[aC];exact h),aD h]
  by_cases h0:a.num=0
  .rw[aG (by rw[aC];omega),aD Oz];rfl
  .rw[aD (by rw[aC];omega),aG Oz];rfl
theorem zhc{x:Int}{d:Nat}(hd:d≠0):(x*(d:Int)<0↔x<0)/\(0<x*(d:Int)↔0<x):=by
 have h1:x<0->x*(d:Int)<0:=λh=>Int.mul_neg_of_neg_of_pos h Oz
 have h2:0<x->0<x*(d:Int):=λh=>Int.mul_pos h Oz
 have h3:x=0->x*(d:Int)=0:=λh=>by rw[h,Int.zero_mul]
 omega
theorem Gz{a b:Rat}(h:S2 a b):It (yg a) (yg b)=some (kV a b):=by
 unfold It
 have h1:=h.2.1
 have h2:=h.2.2.1
 have s1:=zhc (x:=a.num) b.den_nz
 have s2:=zhc (x:=b.num) a.den_nz
 have r1:yz a.num 0 = -1\/yz a.num 0=0\/yz a.num 0=1:=by unfold yz;split<;>(try split)<;>simp
 have r2:yz b.num 0 = -1\/yz b.num 0=0\/yz b.num 0=1:=by unfold yz;split<;>(try split)<;>simp
 have t1:cz (yz a.num 0):=by rcases r1 with h|h|h<;>rw[h]<;>decide
 have t2:cz (yz b.num 0):=by rcases r2 with h|h|h<;>rw[h]<;>decide
 rw[Kw,Kw,aA,aA,KX t1,KX t2,aA,aA,zdx t1 t2,wv,wv,kC,kC,<-zbh]
 have hc:yz a.num 0≠yz b.num 0\/yz a.num 0=0->yz (yz a.num 0) (yz b.num 0)=yz (a.num*b.den) (b.num*a.den):=by
  intro h
  unfold yz at *
  split<;>split<;>(try split)<;>(try split)<;>(try split)<;>(try split)<;>omega
 by_cases c1:yz a.num 0=yz b.num 0
 .rw[aD (by rw[aC];exact λx=>x c1)]
  by_cases c:yz a.num 0=0
  .rw[aG (aH c),aA,hc (.inr c)]
  .rw[aD (by rw[aC];exact c),aA,v8 h.1.1.n h.1.2.d,aA,aA,v8 h.1.2.n h.1.1.d,aA,zdx (by unfold cz;omega) (by unfold cz;omega),aA]
 .rw[aG (aH c1),aA,hc (.inl c1)]
theorem On{p q:Int}(hp:p.natAbs<1000000000)(hq:q.natAbs<1000000000)(h0:0<q):Io p q=some (yg (Rat.divInt p q)):=by
 unfold Io
 rw[KX (by unfold cz;omega),aA,KX (by unfold cz;omega),aA,YK (by unfold cz;omega) (by unfold cz;omega) Oz]
 rfl
theorem rI{s t:Bool}{la lb:List Int}(a:la.length<=2):I0 (s,la) (t,lb)=some (decide ((s,la)=(t,lb))):=by
 unfold I0
 show(if (s==t)=true then(if decide ((la.length:Int)≠(lb.length:Int))=true then _ else _)else _)=_
 by_cases h:s=t
 .subst h
  rw[aG Y8]
  by_cases hl:la.length=lb.length
  .rw[aD (by simp[hl]),Fe hl a Uz]
   congr 1
   rw[decide_eq_decide,Prod.mk.injEq]
   simp
  .rw[aG (by rw[aC];omega),aX]
   rintro h
   exact hl (congrArg (λx=>x.2.length) h)
 .rw[aD (by simpa using h),aX]
  rintro g
  exact h (congrArg Prod.fst g)
theorem BG{a b:Rat}(ha:S1 a):Ih (yg a) (yg b)=some (decide (a=b)):=by
 unfold Ih
 obtain⟨c,d⟩:=zdj ha
 rw[show I0 (yg a).1 (yg b).1=_ from rI c,show I0 (yg a).2 (yg b).2=_ from rI d,aA]
 exact zca rfl rfl
theorem ZC{n:Int}(hn:cz n):mP (zG n)=some true:=by
 unfold mP
 have hl:=xv hn
 have hd:=kU n.natAbs
 refine zl (dg n.natAbs).length (λi (x:Int)=>x=(i:Int)) (λo=>o=some true) Oz rfl ?_ ?_
 .rintro i x g hi rfl hg
  have:=hd.at i
  have e:ae (zG n).2 (i:Int)=some ((dg n.natAbs).getD i 0):=xy hi
  rw[aG (show decide ((i:Int)<((zG n).2.length:Int))=true from zV hi),e,aA,Iw,aD (by rw[aC];omega),aA,aD (by rw[aC];omega),zo Oz,aA]
  exact hg _ rfl
 .rintro x g rfl
  rw[aD (by simp[zG])]
  show(if decide (((dg n.natAbs).length:Int)=0)=true then(if (!decide (n<0))=true then _ else _)else(if decide (0<((dg n.natAbs).length:Int))=true then(i64 (((dg n.natAbs).length:Int)-1)).bind λa=>(ae (dg n.natAbs) a).bind _ else _))=_
  by_cases h0:(dg n.natAbs).length=0
  .have:=bl.mp h0
   rw[aG (by rw[h0];rfl),aX Oz]
   rfl
  .have e:((dg n.natAbs).length:Int)-1=(((dg n.natAbs).length-1:Nat):Int):=by omega
   have h:=zhj hn h0
   rw[aD (by rw[aC];omega),aG (by rw[aC];omega),e,xW Oz,aA,xy Oz,aA,aH h]
theorem sw{a:Rat}(ha:S1 a):Im (yg a)=some true:=by
 unfold Im
 have v0:mP (false,[])=some true:=by rw[<-kB];exact ZC Uz
 have b:(a.den:Int)≠0:=by have:=a.den_nz;omega
 rw[kC,ZC ha.n,aA,aD Uz]
 rcases zft ha with⟨hd,e⟩|⟨hd,e,hl⟩<;>rw[e]
 .rw[v0,aA,aD Uz,aD Uz,show JY (false,[])=some false from rfl,aA,aD Uz,aG (by rfl)]
 .have e1:(zG (a.den:Int)).1=false:=by rw[xX]
  rw[ZC ha.d,aA,aD Uz,e1,aD Uz,Yq ha.d,aA,aD (by rw[aC];omega),aD (by rw[aC];omega),zhr ha.n ha.d b,VA ha hd,aA,Yq Uz]
  rfl
def qF(a b:Rat):Option Rat:=if S2 a b then some (a+b)else none
def wW(a b:Rat):Option Rat:=if S2 a b then some (a-b)else none
def qG(a b:Rat):Option Rat:=if Sm a/\Sm b then some (a*b)else none
def jL(a:Rat):Option Rat:=if S1 a then some (-a)else none
def yu(a b:Rat):Option Int:=if S2 a b then some (kV a b)else none
def qA(a:Rat):Option Int:=if S1 a then some (yz a.num 0)else none
def wm(a b:Rat):Option Bool:=if S2 a b then some (decide (a=b))else none
def qu(a:Rat):Option Bool:=if S1 a then some true else none
def dh(p q:Int):Option Rat:=if p.natAbs<1000000000/\q.natAbs<1000000000/\0<q then some (Rat.divInt p q)else none
theorem xL{α:Type}{p:Prop}[Decidable p]{x r:α}(h:(if p then some x else none)=some r):p/\r=x:=by
 split at h
 .next hp=>exact⟨hp,(dD h).symm⟩
 .cases h
theorem IQ{f:FuncId}{k:Nat}{z:bg.T->bg.T->Option bg.T}{G:Rat->Rat->Option Rat}(h:qt f k [bg,bg] bg λx=>z x.1 x.2)(i:∀a b r,G a b=some r->z (yg a) (yg b)=some (yg r)):qt f k [.rat,.rat] .rat λx=>G x.1 x.2:=by
 intro I d s hf W e vs x hx r g c
 exact h d hf e (x:=(yg x.1,yg x.2)) hx (i _ _ _ g) c
theorem OR{f:FuncId}{k:Nat}{z:bg.T->Option bg.T}{G:Rat->Option Rat}(h:qt f k [bg] bg z)(g:∀a r,G a=some r->z (yg a)=some (yg r)):qt f k [.rat] .rat G:=by
 intro I c s hf W d vs x hx r e b
 exact h c hf d (x:=yg x) hx (g _ _ e) b
theorem Sn{f:FuncId}{k:Nat}{τ:Ty}{z:bg.T->bg.T->Option τ.T}{G:Rat->Rat->Option τ.T}(h:qt f k [bg,bg] τ λx=>z x.1 x.2)(i:∀a b r,G a b=some r->z (yg a) (yg b)=some r):qt f k [.rat,.rat] τ λx=>G x.1 x.2:=by
 intro I d s hf W e vs x hx r g c
 exact h d hf e (x:=(yg x.1,yg x.2)) hx (i _ _ _ g) c
theorem So{f:FuncId}{k:Nat}{τ:Ty}{z:bg.T->Option τ.T}{G:Rat->Option τ.T}(h:qt f k [bg] τ z)(g:∀a r,G a=some r->z (yg a)=some r):qt f k [.rat] τ G:=by
 intro I c s hf W d vs x hx r e b
 exact h c hf d (x:=yg x) hx (g _ _ e) b
theorem Oa{f:FuncId}{k:Nat}{z:Int->Int->Option bg.T}{G:Int->Int->Option Rat}(h:qt f k [.int .i64,.int .i64] bg λx=>z x.1 x.2)(i:∀a b r,G a b=some r->z a b=some (yg r)):qt f k [.int .i64,.int .i64] .rat λx=>G x.1 x.2:=by
 intro I d s hf W e vs x hx r g c
 exact h d hf e hx (i _ _ _ g) c
theorem ES:qt 30 400 [.rat,.rat] .rat λx=>qF x.1 x.2:=IQ (PU 30 _ rfl) λa b r h=>by obtain⟨hc,rfl⟩:=xL h;exact nE hc
theorem Nn:qt 79 408 [.rat,.rat] .rat λx=>wW x.1 x.2:=IQ (PX 79 _ rfl) λa b r h=>by obtain⟨hc,rfl⟩:=xL h;exact HS hc
theorem Nj:qt 122 579 [.rat,.rat] .rat λx=>qG x.1 x.2:=IQ (Fw 122 _ rfl) λa b r h=>by obtain⟨⟨ha,hb⟩,rfl⟩:=xL h;exact pE ha hb
theorem Ng:qt 159 102 [.rat,.rat] (.int .i64) λx=>yu x.1 x.2:=Sn (FA 159 _ rfl) λa b r h=>by obtain⟨hc,rfl⟩:=xL h;exact Gz hc
theorem Nl:qt 139 5 [.rat] .rat jL:=OR (Fz 139 _ rfl) λa r h=>by obtain⟨ha,rfl⟩:=xL h;exact pJ a
theorem ow:qt 193 3 [.rat] (.int .i64) qA:=So (FB 193 _ rfl) λa r h=>by obtain⟨ha,rfl⟩:=xL h;exact Kw a
theorem Nf:qt 36 1795 [.rat,.rat] .rat λx=>qF x.1 x.2:=IQ (PV 36 _ rfl) λa b r h=>by obtain⟨hc,rfl⟩:=xL h;exact zhT hc
theorem No:qt 98 1810 [.rat,.rat] .rat λx=>wW x.1 x.2:=IQ (PZ 98 _ rfl) λa b r h=>by obtain⟨hc,rfl⟩:=xL h;exact BN hc
theorem Nk:qt 99 1630 [.rat,.rat] .rat λx=>qG x.1 x.2:=IQ (P0 99 _ rfl) λa b r h=>by obtain⟨⟨ha,hb⟩,rfl⟩:=xL h;exact AP ha hb
theorem Nh:qt 135 112 [.rat,.rat] (.int .i64) λx=>yu x.1 x.2:=Sn (Fy 135 _ rfl) λa b r h=>by obtain⟨hc,rfl⟩:=xL h;exact Ai hc
theorem Nm:qt 38 12 [.rat] .rat jL:=OR (PW 38 _ rfl) λa r h=>by obtain⟨ha,rfl⟩:=xL h;exact zha ha
theorem GK:qt 80 14 [.rat] (.int .i64) qA:=So (PY 80 _ rfl) λa r h=>by obtain⟨ha,rfl⟩:=xL h;exact rX ha
theorem GI:qt 106 12 [.rat,.rat] .bool λx=>wm x.1 x.2:=Sn (Fs 106 _ rfl) λa b r h=>by obtain⟨hc,rfl⟩:=xL h;exact BG hc.1.1
theorem GJ:qt 109 18 [.rat,.rat] .bool λx=>wm x.1 x.2:=Sn (Ft 109 _ rfl) λa b r h=>by obtain⟨hc,rfl⟩:=xL h;exact rJ hc.1.1
theorem An:qt 120 103 [.rat] .bool qu:=So (Fv 120 _ rfl) λa r h=>by obtain⟨ha,rfl⟩:=xL h;exact sw ha
theorem Ao:qt 110 805 [.rat] .bool qu:=So (Fu 110 _ rfl) λa r h=>by obtain⟨ha,rfl⟩:=xL h;exact mF ha
theorem Ta:qt 123 241 [.int .i64,.int .i64] .rat λx=>dh x.1 x.2:=Oa (Fx 123 _ rfl) λa b r h=>by obtain⟨⟨ha,hb,h0⟩,rfl⟩:=xL h;exact On ha hb h0
theorem Tb:qt 20 1564 [.int .i64,.int .i64] .rat λx=>dh x.1 x.2:=Oa (PH 20 _ rfl) λa b r h=>by obtain⟨⟨ha,hb,h0⟩,rfl⟩:=xL h;exact Hk ha hb h0
def QB(D N:Nat)(x:Rat):Prop:=∃n:Int,x*(D:Rat)=(n:Rat)/\n.natAbs<=N
theorem WW{D:Nat}{n:Int}{x:Rat}(hn:x*(D:Rat)=(n:Rat)):x.num*(D:Int)=n*(x.den:Int):=by
 have hx:(x.num:Rat)=x*(x.den:Rat):=by
  have h:=Rat.num_divInt_den x
  rw[Rat.divInt_eq_div]at h
  have hd:((x.den:Int):Rat)≠0:=by
   have:=x.den_nz
   exact_mod_cast this
  have h2:(x.num:Rat) / ((x.den:Int):Rat)*((x.den:Int):Rat)=(x.num:Rat):=Rat.div_mul_cancel hd
  rw[h]at h2
  rw[<-h2]
  rfl
 have:(x.num:Rat)*(D:Rat)=(n:Rat)*(x.den:Rat):=by rw[hx,<-hn];grind
 exact_mod_cast this
theorem QB.num{D N:Nat}{x:Rat}(c:0<D)(h:QB D N x):x.num.natAbs<=N/\x.den<=D:=by
 obtain⟨n,hn,hN⟩:=h
 have h1:=WW hn
 have hc:=x.reduced
 have h2:x.den∣D:=by
  have b:x.den∣x.num.natAbs*D:=by
   have:(x.num*(D:Int)).natAbs=(n*(x.den:Int)).natAbs:=by rw[h1]
   rw[dW,dW,Int.natAbs_natCast,Int.natAbs_natCast]at this
   rw[this]
   exact Nat.dvd_mul_left _ _
  exact Nat.Coprime.dvd_of_dvd_mul_left (Nat.Coprime.symm hc) b
 refine⟨?_,Nat.le_of_dvd c h2⟩
 obtain⟨k,hk⟩:=h2
 have h4:x.num.natAbs*k=n.natAbs:=by
  have:(x.num*(D:Int)).natAbs=(n*(x.den:Int)).natAbs:=by rw[h1]
  rw[dW,dW,Int.natAbs_natCast,Int.natAbs_natCast,hk]at this
  have hp:=x.den_pos
  have:x.den*(x.num.natAbs*k)=x.den*n.natAbs:=by rw[Nat.mul_comm x.den n.natAbs,<-this];ac_rfl
  exact Nat.eq_of_mul_eq_mul_left hp this
 have a:0<k:=by
  rcases Nat.eq_zero_or_pos k with rfl|h
  .omega
  .exact h
 have:x.num.natAbs*1<=x.num.natAbs*k:=cI _ a
 omega
theorem QB.sm{D N:Nat}{x:Rat}(h:QB D N x)(a:0<D/\D<500000000/\N<500000000):Sm x:=by
 have:=h.num a.1
 exact⟨by omega,by omega⟩
theorem QB.int{n:Int}{N:Nat}(h:n.natAbs<=N):QB 1 N (n:Rat):=⟨n,by grind,h⟩
theorem QB.add{D N M:Nat}{x y:Rat}(h:QB D N x)(g:QB D M y):QB D (N+M) (x+y):=by
 obtain⟨n,hn,hN⟩:=h
 obtain⟨m,hm,hM⟩:=g
 exact⟨n+m,by rw[Rat.add_mul,hn,hm];push_cast;rfl,by omega⟩
theorem QB.neg{D N:Nat}{x:Rat}(h:QB D N x):QB D N (-x):=by
 obtain⟨n,hn,hN⟩:=h
 exact⟨-n,by rw[Rat.neg_mul,hn];push_cast;rfl,by omega⟩
theorem QB.sub{D N M:Nat}{x y:Rat}(h:QB D N x)(g:QB D M y):QB D (N+M) (x-y):=by
 rw[Rat.sub_eq_add_neg];exact h.add g.neg
theorem QB.mul{D E N M:Nat}{x y:Rat}(h:QB D N x)(g:QB E M y):QB (D*E) (N*M) (x*y):=by
 obtain⟨n,hn,b⟩:=h
 obtain⟨m,hm,a⟩:=g
 refine⟨n*m,?_,by rw[dW];exact eE b a⟩
 push_cast
 rw[<-hn,<-hm]
 grind
theorem QB.up{D N k:Nat}{x:Rat}(h:QB D N x):QB (D*k) (N*k) x:=by
 obtain⟨n,hn,a⟩:=h
 refine⟨n*k,?_,by rw[dW,Int.natAbs_natCast];exact bQ _ a⟩
 push_cast
 rw[<-hn]
 grind
theorem QB.le{D N M:Nat}{x:Rat}(h:QB D N x)(g:N<=M):QB D M x:=by
 obtain⟨n,hn,hN⟩:=h
 exact⟨n,hn,by omega⟩
theorem yE{a b:Rat}(ha:Sm a)(hb:Sm b):qF a b=some (a+b):=aG (ha.s2 hb)
theorem vA{a b:Rat}(ha:Sm a)(hb:Sm b):wW a b=some (a-b):=aG (ha.s2 hb)
theorem xK{a b:Rat}(ha:Sm a)(hb:Sm b):qG a b=some (a*b):=aG ⟨ha,hb⟩
theorem zhS{a b:Rat}(ha:Sg a)(hb:Sg b):qF a b=some (a+b):=aG (ha.s2 hb)
theorem BO{a b:Rat}(ha:Sg a)(hb:Sg b):wW a b=some (a-b):=aG (ha.s2 hb)
theorem zbg{a b:Rat}(ha:Sg a)(hb:Sg b):yu a b=some (kV a b):=aG (ha.s2 hb)
theorem QB.sg{D N:Nat}{x:Rat}(h:QB D N x)(a:0<D/\D<1000000/\N<250000000000):Sg x:=by
 have:=h.num a.1
 exact⟨by omega,by omega⟩
theorem kJ{a:Rat}(ha:Sm a):jL a=some (-a):=aG ha.s1
theorem yW{a b:Rat}(ha:Sm a)(hb:Sm b):yu a b=some (kV a b):=aG (ha.s2 hb)
theorem jG{a b:Rat}(ha:Sm a)(hb:Sm b):wm a b=some (decide (a=b)):=aG (ha.s2 hb)
theorem gM{a:Rat}(ha:Sm a):qu a=some true:=aG ha.s1
theorem Yy{a:Rat}(ha:Sm a):qA a=some (yz a.num 0):=aG ha.s1
end Go.Proofs.YtocnbjjmmgolfaaGreat
