/- zJ law of the number packages: fractions of the program. -/
import Derived.Test.YtocnbjjmmgolfaaGreatA21
set_option linter.unusedSimpArgs false
set_option linter.unusedVariables false
set_option linter.unusedSectionVars false
namespace Go.Proofs.YtocnbjjmmgolfaaGreat
open Go Go.M Go.Proofs.C14
theorem mulP_ok{la lb:List Int}(ha:Dig la)(hb:Dig lb)(la2:la.length≤2)(lb2:lb.length≤2)(s t:Bool) :
 z84 (s,la) (t,lb)=some (zF (sg (!(s==t)) (zX la*zX lb))):=by
 unfold z84
 dsimp only
 by_cases f:la.length=1∧lb.length=1
 ·obtain⟨h1,h2⟩:=f
  obtain⟨x,rfl⟩:=List.length_eq_one_iff.mp h1
  obtain⟨y,rfl⟩:=List.length_eq_one_iff.mp h2
  have j:=ha x Y8
  have d:=hb y Y8
  have hp:0≤x*y:=Int.mul_nonneg j.1 d.1
  have hq:x*y≤999999999*999999999:=Int.mul_le_mul Oz Oz d.1 Uz
  have e:zX [x]*zX [y]=(x*y).toNat:=by
   show(x.toNat+1000000000*0)*(y.toNat+1000000000*0)=_
   rw[Nat.mul_zero,bK,bK,Int.toNat_mul j.1 d.1]
  rw[aG (by rfl),aG (by rfl),show idx [x] 0=some x from rfl,show idx [y] 0=some y from rfl,aA,aA,show x % 18446744073709551616=x by omega,show y % 18446744073709551616=y by omega,e]
  generalize x*y=p at *
  obtain⟨n,rfl⟩:=Int.eq_ofNat_of_zero_le hp
  rw[uZ,aG Oz,aA,wL Oz,Int.toNat_natCast]
  rfl
 rw[if2 (by rw[aB,aB];omega)]
 have m:(la.length:Int)+(lb.length:Int)=((la.length+lb.length:Nat):Int):=by omega
 rw[m,xW Oz,aA,aG Oz,Int.toNat_natCast]
 refine zk la.length (fun i (x:Int×List Int)=>x.1=(i:Int)∧MI la lb i 0 0 x.2) (fun o=>o=some (zF (sg (!(s==t)) (zX la*zX lb)))) Oz ⟨rfl,MI.start la lb⟩ ?_ ?_
 ·rintro i ⟨x,out⟩ g hi ⟨rfl,b⟩ hg
  have b:MI la lb i 0 0 out:=b
  dsimp only
  rw[aG (zN hi),xy hi,aA]
  refine zk lb.length (fun k (y:Int×Int×List Int)=>y.2.1=(k:Int)∧MI la lb i k y.1 y.2.2) (fun o=>o=some (zF (sg (!(s==t)) (zX la*zX lb)))) Oz ⟨rfl,b⟩ ?_ ?_
  ·rintro k ⟨c,y,o⟩ q hk ⟨rfl,a⟩ h
   have a:MI la lb i k c o:=a
   obtain⟨w,l⟩:∃w,w=o.getD (i+k) 0+la.getD i 0*lb.getD k 0+c:=⟨_,rfl⟩
   obtain⟨w0,w1,o0,o1⟩:=a.w ha hb
   have c0:=a.c0
   have c1:=a.c1
   have hl:=a.len
   have e1:(i:Int)+(k:Int)=((i+k:Nat):Int):=by omega
   have e2:w-w / 1000000000*1000000000=w % 1000000000:=by omega
   have r:=h (w / 1000000000,((k+1:Nat):Int),o.set (i+k) (w % 1000000000)) ⟨rfl,a.step ha hb hi hk l⟩
   dsimp only
   rw[aG (zN hk),e1]
   simp only[xW (show((i+k:Nat):Int).natAbs<_ by omega),aA,xy (show i+k<o.length by omega),xy hk,xW (show(la.getD i 0*lb.getD k 0).natAbs<_ by omega),xW (show(o.getD (i+k) 0+la.getD i 0*lb.getD k 0).natAbs<_ by omega),←l,xW (show w.natAbs<_ by omega),aE (show ¬(1000000000:Int)=0 by decide),td9 (show 0≤w by omega),xW (show(w / 1000000000).natAbs<_ by omega),xW (show(w / 1000000000*1000000000).natAbs<_ by omega),e2,xW (show(w % 1000000000).natAbs<_ by omega),zp (show k<100000 by omega),yR,Int.toNat_natCast]
   exact r
  ·rintro⟨c,y,o⟩ q ⟨rfl,a⟩
   have a:MI la lb i lb.length c o:=a
   have hl:=a.len
   have e1:(i:Int)+(lb.length:Int)=((i+lb.length:Nat):Int):=by omega
   dsimp only
   rw[aE Y8,e1]
   simp only[xW (show((i+lb.length:Nat):Int).natAbs<_ by omega),aA,xy (show i+lb.length<o.length by omega),zp (show i<100000 by omega),yR,Int.toNat_natCast]
   exact hg _ ⟨rfl,a.next hi⟩
 ·rintro⟨x,out⟩ g ⟨rfl,b⟩
  have b:MI la lb la.length 0 0 out:=b
  have hl:=b.len
  dsimp only
  rw[aE Y8,zbR b.dig Oz,b.fin ha hb]
  rfl
theorem vW{a b:Int}(ha:S18 a)(hb:S18 b):z84 (zF a) (zF b)=some (zF (a*b)):=by
 have:=mulP_ok (kU a.natAbs) (kU b.natAbs) (xr ha) (xr hb) (decide (a<0)) (decide (b<0))
 rw[yu,yu,sg_mul]at this
 exact this
theorem Jw{m:Nat}(h:m<1000000000000000000):zdr (dg m)=some ((m:Int),true):=by
 unfold zdr
 rcases Vj h with⟨h0,e⟩|⟨h0,h1,e⟩|⟨h1,e⟩<;>rw[e]
 ·rw[aG (by rfl),h0];rfl
 ·rw[aE Y8,aG (by rfl),show idx [((m % 1000000000:Nat):Int)] 0=some ((m % 1000000000:Nat):Int)from rfl,Nat.mod_eq_of_lt Oz];rfl
 ·have h2:((m % 1000000000:Nat):Int)+1000000000*((m / 1000000000:Nat):Int)=m:=by omega
  have h3:((m / 1000000000:Nat):Int).natAbs<1000000000:=by omega
  have h4:((m % 1000000000:Nat):Int).natAbs<1000000000:=by omega
  generalize ((m % 1000000000:Nat):Int)=a at *
  generalize ((m / 1000000000:Nat):Int)=b at *
  rw[aE Y8,aE Y8,aG (by rfl),show idx [a,b] 1=some b from rfl,show idx [a,b] 0=some a from rfl,aA,xW (x:=b*1000000000) Oz,aA,aA,xW (x:=b*1000000000+a) Oz,aA,show b*1000000000+a=m by omega]
theorem unsM{n:Nat}(h:n<1000000000000000000):QM false ((n:Int) % 18446744073709551616)=some (zF (n:Int)):=by
 rw[show(n:Int) % 18446744073709551616=(n:Int)by omega,wL h,zbl]
theorem zgv{a b:Int}(ha:S18 a)(hb:S18 b)(h0:b≠0):z146 (zF a) (zF b)=some (zF (Nat.gcd a.natAbs b.natAbs:Nat)):=by
 unfold z146
 rw[show uM false (zF a).2=_ from of_dg a.natAbs ha false,show uM false (zF b).2=_ from of_dg b.natAbs hb false,aA,aA,zbl,zbl,xX,xX,zC 2,ze]
 have l0:(dg b.natAbs).length≠0:=fun h=>by have:=dg_len0.mp h;omega
 have hg:=QE (m:=a.natAbs) hb Oz
 dsimp only
 rw[aG (by rw[aB];omega),Jw ha,Jw hb,aA,aA,aG rfl,aG rfl,zC 130]
 rw[zeD (fun x=>(QM false (x % 18446744073709551616)).bind fun c=>some c) (fun g m=>aE Y8) (fun g m n hn=>by rw[aG (by rw[aB];show(0:Int)<n;omega),aE (by show ¬(n:Int)=0;omega)];rfl) 60 a.natAbs b.natAbs 130 (Nat.lt_trans hb Uz) Uz]
 rw[unsM hg]
 rfl
theorem Yb{n:Int}(hn:S18 n):Jr (zF n)=some (decide (n=1)):=by
 unfold Jr
 show(if (!decide (n<0))=true then(if decide (((dg n.natAbs).length:Int)=1)=true then(idx (dg n.natAbs) 0).bind _ else _)else _)=_
 by_cases h:n<0
 ·rw[aH h,aE Uz,aZ Oz]
 rw[aZ h,aG (by rfl)]
 rcases Vj hn with⟨h0,e⟩|⟨h0,h1,e⟩|⟨h1,e⟩<;>rw[e]
 ·rw[aE Y8,aZ Oz]
 ·rw[aG (by rfl),show idx [((n.natAbs % 1000000000:Nat):Int)] 0=some ((n.natAbs % 1000000000:Nat):Int)from rfl,aA]
  congr 1
  rw[decide_eq_decide]
  omega
 ·rw[aE Y8,aZ Oz]
theorem divide_ok{m n:Nat}(a:m<1000000000000000000)(hn:n<1000000000000000000)(h0:n≠0):zdq (dg m) (dg n)=some (zF ((m / n:Nat):Int),zF ((m % n:Nat):Int)):=by
 unfold zdq
 have b:m / n<1000000000000000000:=cA (Nat.div_le_self m n) a
 have e:m % n<1000000000000000000:=cA (Nat.mod_le m n) a
 have c:Int.tdiv (m:Int) (n:Int)=((m / n:Nat):Int):=rfl
 have d:Int.tmod (m:Int) (n:Int)=((m % n:Nat):Int):=rfl
 rw[Jw a,aA,aG rfl,Jw hn,aA,aG rfl]
 dsimp only
 rw[aE Oz,c,KZ b,aA,aE Oz,d,unsM b,aA,unsM e,aA]
theorem zgA{a g:Int}(ha:S18 a)(hg:0<g)(b:S18 g)(hd:g∣a):z148 (zF a) (zF g)=some (zF (a / g),zF 0):=by
 unfold z148
 have f:a.natAbs % g.natAbs=0:=Nat.mod_eq_zero_of_dvd (Int.natAbs_dvd_natAbs.mpr hd)
 have i:¬(decide (((zF g).2.length:Int)=0))=true:=by
  have:(zF g).2.length≠0:=fun h=>by have:=dg_len0.mp h;omega
  rw[aB];omega
 rw[aE i,show zdq (zF a).2 (zF g).2=_ from divide_ok ha b Oz,aA,f]
 have hs:sg (!(decide (a<0)==decide (g<0))) (a.natAbs / g.natAbs)=a / g:=sg_div hg hd
 have e:(zF g).1=false:=aZ Oz
 have d:zF ((0:Nat):Int)=(false,[]):=kB
 rw[aZ (show ¬g<0 by omega)]at hs
 dsimp only
 rw[e,d,←kB]
 show(if decide (a<0)=true then _ else _)=_
 generalize a.natAbs / g.natAbs=q at hs
 by_cases h:a<0
 ·have ea:(zF a).1=true:=aH h
  rw[aH h]at hs ⊢
  rw[aG rfl,kB,aE Y8,ea,aG (by rfl),←hs,xX]
  by_cases c:q=0
  ·subst c;rw[show sg (!(true==false)) 0=0 from rfl,kB,qA];rfl
  ·have:(dg q).length≠0:=fun h=>c (dg_len0.mp h)
   rw[zam c]
   show some ((decide (0<((dg q).length:Int)),dg q),_)=_
   rw[aH Oz];rfl
 ·have ea:(zF a).1=false:=aZ h
  rw[aZ h]at hs ⊢
  rw[aE Uz,ea,aE Uz,←hs,xX,show sg (!(false==false)) q=(q:Int)from rfl,xX,kB]
theorem JX(n:Int):z214 (zF n)=some (zF (-n)):=by
 unfold z214
 show(if (!decide (n<0))=true then some (decide (0<((dg n.natAbs).length:Int)),dg n.natAbs)else some (false,dg n.natAbs))=some (decide (-n<0),dg (-n).natAbs)
 rw[Int.natAbs_neg]
 have hl:=dg_len0 (n:=n.natAbs)
 by_cases h:n<0
 ·rw[aH h,aE Uz,aZ Oz]
 ·rw[aZ h,aG (by rfl)]
  congr 2
  rw[decide_eq_decide]
  omega
theorem Xg{P U:Int}(a:S18 U):zdw (zF P) (zF U)=some (zF (if U<0 then -P else P),if decide ((if U<0 then -U else U)=1)=true then(false,[])else zF (if U<0 then -U else U)):=by
 unfold zdw
 show(if decide (U<0)=true then _ else _)=_
 by_cases h:U<0
 ·rw[aG (aH h),aG h,aG h,JX,JX,aA,aA,Yb (zfP a),aA]
  split<;>rfl
 ·rw[aE (by rw[aB];exact h),aE h,aE h,Yb a,aA]
  split<;>rfl
theorem zcw{q:Rat}{z:Int}(h:(q.den:Int)=z):(if q.den=1 then(false,([]:List Int))else zF (q.den:Int))=if decide (z=1)=true then(false,[])else zF z:=by
 subst h
 by_cases h:q.den=1
 ·rw[aG h,aG (aH Oz)]
 ·rw[aE h,aE (by rw[aB];omega)]
theorem Yw{p q:Int}(hp:S18 p)(a:S18 q)(h0:q≠0):z83 (zF p) (zF q)=some (yk (Rat.divInt p q)):=by
 unfold z83
 have lq:(zF q).2.length≠0:=fun h=>by have:=dg_len0.mp h;omega
 rw[aE (by rw[aB];omega)]
 by_cases e:p=0
 ·subst e
  rw[aG (by rw[kB];rfl),Rat.zero_divInt,kM,aG (show(0:Rat).den=1 from rfl),show(0:Rat).num=0 from rfl,kB]
 have lp:(zF p).2.length≠0:=fun h=>by have:=dg_len0.mp h;omega
 rw[aE (by rw[aB];omega),zgv hp a h0,aA]
 have hg:=QE (m:=p.natAbs) a Oz
 have hgp:=J8 (p:=p) h0
 have e1:=Zc (p:=p) h0
 have e2:=zcD (p:=p) h0
 have d:=YH (p:=p) h0
 have c:((Nat.gcd p.natAbs q.natAbs:Nat):Int)∣p:=Int.ofNat_dvd_left.mpr (Nat.gcd_dvd_left _ _)
 have b:((Nat.gcd p.natAbs q.natAbs:Nat):Int)∣q:=Int.ofNat_dvd_left.mpr (Nat.gcd_dvd_right _ _)
 generalize Nat.gcd p.natAbs q.natAbs=G at *
 rw[Yb (s18 hg),aA,kM,zcw e2,e1]
 simp only[←d]
 by_cases h1:G=1
 ·subst h1
  rw[aE Uz,Xg a,aA,Int.natCast_one,Int.ediv_one,Int.ediv_one]
 ·rw[aG (by rw[aZ Oz];rfl),zgA hp Oz (s18 hg) c,zgA a Oz (s18 hg) b,aA,aA,Xg (Q7 a b),aA]
theorem one_P:z145=some (zF 1):=by unfold z145;rw[KA Uz];rfl
theorem wT(q:Rat):z82 (yk q)=some (zF (q.den:Int)):=by
 unfold z82
 rw[kM]
 by_cases hd:q.den=1
 ·rw[aG hd,aG (by rfl),one_P,hd];rfl
 ·have hl:(zF (q.den:Int)).2.length≠0:=fun g=>by rw[xX]at g;exact q.den_nz (dg_len0.mp g)
  rw[aE hd,aE (by rw[aB];show ¬(((zF (q.den:Int)).2.length:Int)=0);omega)]
theorem gy(q:Rat):decide (((yk q).2.2.length:Int)=0)=decide (q.den=1):=by
 rw[decide_eq_decide,kM]
 by_cases hd:q.den=1
 ·rw[aG hd];exact⟨fun _=>hd,fun _=>rfl⟩
 ·have hl:(zF (q.den:Int)).2.length≠0:=fun g=>by rw[xX]at g;exact q.den_nz (dg_len0.mp g)
  rw[aE hd];exact⟨fun h=>absurd h (show ¬(((zF (q.den:Int)).2.length:Int)=0)by omega),fun h=>absurd h hd⟩
theorem ZU(q:Rat):decide (((yk q).1.2.length:Int)=0)=decide (q=0):=by
 rw[decide_eq_decide]
 have:(yk q).1.2.length=0↔q.num=0:=dg_len0.trans Int.natAbs_eq_zero
 rw[←Rat.num_eq_zero,←this]
 omega
theorem uh{q:Rat}(h:q.den=1):yk q=(zF q.num,false,[]):=by rw[kM,aG h]
theorem addP_Q{a b:Rat}(h:S2 a b):z30 (yk a) (yk b)=some (yk (a+b)):=by
 unfold z30
 have h1:=h.2.1
 have h2:=h.2.2.1
 have h3:=h.2.2.2
 have e:((a.den:Int)*(b.den:Int))=((a.den*b.den:Nat):Int):=(Int.natCast_mul ..).symm
 rw[gy,gy,ZU,ZU,wT,wT,kC,kC]
 by_cases c:a.den=1∧b.den=1
 ·obtain⟨e1,e2⟩:=add_int c.1 c.2
  rw[aG (aH c.1),aG (aH c.2),zgX h.1.1.n h.1.2.n,aA,uh e2,e1]
 rw[if2 (by rw[aB,aB];exact c)]
 by_cases a0:a=0
 ·subst a0;rw[aG (by rfl),Rat.zero_add]
 rw[aE (by rw[aB];exact a0)]
 by_cases f:b=0
 ·subst f;rw[aG (by rfl),Rat.add_zero]
 rw[aE (by rw[aB];exact f),aA,aA,vW h.1.1.n h.1.2.d,aA,vW h.1.2.n h.1.1.d,aA,zgX (by unfold S18;omega) (by unfold S18;omega),aA,vW h.1.1.d h.1.2.d,aA,Yw (by unfold S18;omega) (by rw[e];exact s18 Oz) (dd_ne a b),aA,zgU]
theorem negP_Q(a:Rat):z139 (yk a)=some (yk (-a)):=by
 unfold z139
 rw[kC,JX,aA,kM (-a),kM a,Rat.neg_num,Rat.neg_den]
theorem subP_Q{a b:Rat}(h:S2 a b):z79 (yk a) (yk b)=some (yk (a-b)):=by
 unfold z79
 rw[negP_Q,aA,addP_Q h.neg,aA,Rat.sub_eq_add_neg]
theorem mulP_Q{a b:Rat}(ha:Sm a)(hb:Sm b):z122 (yk a) (yk b)=some (yk (a*b)):=by
 unfold z122
 rw[gy,gy,ZU,ZU,wT,wT,kC,kC]
 by_cases a0:a=0
 ·subst a0;rw[aG (by rfl),Rat.zero_mul];rw[uh rfl,show(0:Rat).num=0 from rfl,kB]
 rw[aE (by rw[aB];exact a0)]
 by_cases g:b=0
 ·subst g;rw[aG (by rfl),Rat.mul_zero];rw[uh rfl,show(0:Rat).num=0 from rfl,kB]
 rw[aE (by rw[aB];exact g)]
 by_cases c:a.den=1∧b.den=1
 ·obtain⟨e1,e2⟩:=mul_int c.1 c.2
  rw[aG (aH c.1),aG (aH c.2),vW ha.n hb.n,aA,uh e2,e1]
 rw[if2 (by rw[aB,aB];exact c)]
 have da:=a.den_nz
 have db:=b.den_nz
 obtain⟨m1,m2⟩:=zee a b
 have h:=bd_mkRat (n:=a.num) (d:=b.den)
 have i:=bd_mkRat (n:=b.num) (d:=a.den)
 have f:=ha.1
 have ha2:=ha.2
 have hb1:=hb.1
 have hb2:=hb.2
 have j:(mkRat a.num b.den).num.natAbs<500000000:=cA h.1 f
 have x2:(mkRat a.num b.den).den<500000000:=by have:=h.2;omega
 have k:(mkRat b.num a.den).num.natAbs<500000000:=cA i.1 hb1
 have l:(mkRat b.num a.den).den<500000000:=by have:=i.2;omega
 have sx:Sm (mkRat a.num b.den):=⟨j,x2⟩
 have sy:Sm (mkRat b.num a.den):=⟨k,l⟩
 have h3:=sx.dd sy
 rw[aA,Yw ha.n hb.d Oz,aA,aA,Yw hb.n ha.d Oz,aA,Rat.divInt_ofNat,Rat.divInt_ofNat,kC,kC,vW sx.n sy.n,aA,wT,wT,aA,aA,vW sx.d sy.d,aA]
 have e:(((mkRat a.num b.den).den:Int)*((mkRat b.num a.den).den:Int))=((a*b).den:Int):=by rw[m2,Int.natCast_mul]
 have hn:¬((a*b).den:Int)<0:=by omega
 rw[←m1,e,Xg (U:=((a*b).den:Int)) (s18 (by rw[m2];omega)),aA]
 simp only[aE hn]
 rw[kM,zcw rfl]
theorem zcI{m n:Int}(a:S18 m)(hn:S18 n):z221 (zF m) (zF n)=some (yB m n):=by
 unfold z221
 have b:=xr a
 have c:=xr hn
 have e1:YR (zF n).2 (zF m).2=some (uG n.natAbs m.natAbs):=(Vp c).trans (by rw[←gR];rfl)
 have e2:YR (zF m).2 (zF n).2=some (uG m.natAbs n.natAbs):=(Vp b).trans (by rw[←gR];rfl)
 rw[e1,e2,aA,aA]
 show(if (!(decide (m<0)==decide (n<0)))=true then(if decide (m<0)=true then _ else(if (!(decide (m<0)==decide (n<0)))=true then _ else _))else(if (!(decide (m<0)==decide (n<0)))=true then _ else(if decide (m<0)=true then _ else _)))=_
 by_cases h1:m<0<;>by_cases h2:n<0
 ·rw[aH h1,aH h2,aE Uz,aE Uz,aG rfl]
  congr 1
  unfold uG yB
  split<;>split<;>(try split)<;>(try split)<;>first|rfl|omega
 ·rw[aH h1,aZ h2,aG Uz,aG rfl,yB,aG Oz]
 ·rw[aZ h1,aH h2,aG Uz,aE Uz,aG Uz,yB,aE Oz,aG Oz]
 ·rw[aZ h1,aZ h2,aE Uz,aE Uz,aE Uz]
  congr 1
  unfold uG yB
  split<;>split<;>(try split)<;>(try split)<;>first|rfl|omega
theorem Q3(a:Rat):z193 (yk a)=some (yB a.num 0):=by
 unfold z193 z239
 rw[kC]
 show((if decide (a.num<0)=true then _ else(if decide (((dg a.num.natAbs).length:Int)=0)=true then _ else _)):Option Int).bind _=_
 have hl:=dg_len0 (n:=a.num.natAbs)
 unfold yB
 by_cases h:a.num<0
 ·rw[aG (aH h),aG h];rfl
 ·rw[aE (by rw[aB];exact h),aE h]
  by_cases h0:a.num=0
  ·rw[aG (by rw[aB];omega),aE Oz];rfl
  ·rw[aE (by rw[aB];omega),aG Oz];rfl
theorem zgh{x:Int}{d:Nat}(hd:d≠0):(x*(d:Int)<0↔x<0)∧(0<x*(d:Int)↔0<x):=by
 have h1:x<0→x*(d:Int)<0:=fun h=>Int.mul_neg_of_neg_of_pos h Oz
 have h2:0<x→0<x*(d:Int):=fun h=>Int.mul_pos h Oz
 have h3:x=0→x*(d:Int)=0:=fun h=>by rw[h,Int.zero_mul]
 omega
theorem cmpP_Q{a b:Rat}(h:S2 a b):z159 (yk a) (yk b)=some (wa a b):=by
 unfold z159
 have h1:=h.2.1
 have h2:=h.2.2.1
 have s1:=zgh (x:=a.num) b.den_nz
 have s2:=zgh (x:=b.num) a.den_nz
 have r1:yB a.num 0 = -1∨yB a.num 0=0∨yB a.num 0=1:=by unfold yB;split<;>(try split)<;>simp
 have r2:yB b.num 0 = -1∨yB b.num 0=0∨yB b.num 0=1:=by unfold yB;split<;>(try split)<;>simp
 have t1:S18 (yB a.num 0):=by rcases r1 with h|h|h<;>rw[h]<;>decide
 have t2:S18 (yB b.num 0):=by rcases r2 with h|h|h<;>rw[h]<;>decide
 rw[Q3,Q3,aA,aA,KA t1,KA t2,aA,aA,zcI t1 t2,wT,wT,kC,kC,←zau]
 have hc:yB a.num 0≠yB b.num 0∨yB a.num 0=0→yB (yB a.num 0) (yB b.num 0)=yB (a.num*b.den) (b.num*a.den):=by
  intro h
  unfold yB at *
  split<;>split<;>(try split)<;>(try split)<;>(try split)<;>(try split)<;>omega
 by_cases c1:yB a.num 0=yB b.num 0
 ·rw[aE (by rw[aB];exact fun x=>x c1)]
  by_cases c:yB a.num 0=0
  ·rw[aG (aH c),aA,hc (.inr c)]
  ·rw[aE (by rw[aB];exact c),aA,vW h.1.1.n h.1.2.d,aA,aA,vW h.1.2.n h.1.1.d,aA,zcI (by unfold S18;omega) (by unfold S18;omega),aA]
 ·rw[aG (aH c1),aA,hc (.inl c1)]
theorem ofP_Q{p q:Int}(hp:p.natAbs<1000000000)(hq:q.natAbs<1000000000)(h0:0<q):z123 p q=some (yk (Rat.divInt p q)):=by
 unfold z123
 rw[KA (by unfold S18;omega),aA,KA (by unfold S18;omega),aA,Yw (by unfold S18;omega) (by unfold S18;omega) Oz]
 rfl
theorem sameP1{s t:Bool}{la lb:List Int}(a:la.length≤2):zdu (s,la) (t,lb)=some (decide ((s,la)=(t,lb))):=by
 unfold zdu
 show(if (s==t)=true then(if decide ((la.length:Int)≠(lb.length:Int))=true then _ else _)else _)=_
 by_cases h:s=t
 ·subst h
  rw[aG Y8]
  by_cases hl:la.length=lb.length
  ·rw[aE (by simp[hl]),sameL hl a Uz]
   congr 1
   rw[decide_eq_decide,Prod.mk.injEq]
   simp
  ·rw[aG (by rw[aB];omega),aZ]
   rintro h
   exact hl (congrArg (fun x=>x.2.length) h)
 ·rw[aE (by simpa using h),aZ]
  rintro g
  exact h (congrArg Prod.fst g)
theorem sameP_Q{a b:Rat}(ha:S1 a):z106 (yk a) (yk b)=some (decide (a=b)):=by
 unfold z106
 obtain⟨c,d⟩:=zcv ha
 rw[show zdu (yk a).1 (yk b).1=_ from sameP1 c,show zdu (yk a).2 (yk b).2=_ from sameP1 d,aA]
 exact zbm rfl rfl
theorem Zo{n:Int}(hn:S18 n):z196 (zF n)=some true:=by
 unfold z196
 have hl:=xr hn
 have hd:=kU n.natAbs
 refine zk (dg n.natAbs).length (fun i (x:Int)=>x=(i:Int)) (fun o=>o=some true) Oz rfl ?_ ?_
 ·rintro i x g hi rfl hg
  have:=hd.at i
  have e:idx (zF n).2 (i:Int)=some ((dg n.natAbs).getD i 0):=xy hi
  rw[aG (show decide ((i:Int)<((zF n).2.length:Int))=true from zN hi),e,aA,z245,aE (by rw[aB];omega),aA,aE (by rw[aB];omega),zp Oz,aA]
  exact hg _ rfl
 ·rintro x g rfl
  rw[aE (by simp[zF])]
  show(if decide (((dg n.natAbs).length:Int)=0)=true then(if (!decide (n<0))=true then _ else _)else(if decide (0<((dg n.natAbs).length:Int))=true then(i64 (((dg n.natAbs).length:Int)-1)).bind fun a=>(idx (dg n.natAbs) a).bind _ else _))=_
  by_cases h0:(dg n.natAbs).length=0
  ·have:=dg_len0.mp h0
   rw[aG (by rw[h0];rfl),aZ Oz]
   rfl
  ·have e:((dg n.natAbs).length:Int)-1=(((dg n.natAbs).length-1:Nat):Int):=by omega
   have h:=zgo hn h0
   rw[aE (by rw[aB];omega),aG (by rw[aB];omega),e,xW Oz,aA,xy Oz,aA,aH h]
theorem validP_Q{a:Rat}(ha:S1 a):z120 (yk a)=some true:=by
 unfold z120
 have c:z196 (false,[])=some true:=by rw[←kB];exact Zo Uz
 have b:(a.den:Int)≠0:=by have:=a.den_nz;omega
 rw[kC,Zo ha.n,aA,aE Uz]
 rcases zeG ha with⟨hd,e⟩|⟨hd,e,hl⟩<;>rw[e]
 ·rw[c,aA,aE Uz,aE Uz,show Jr (false,[])=some false from rfl,aA,aE Uz,aG (by rfl)]
 ·have e1:(zF (a.den:Int)).1=false:=by rw[xX]
  rw[Zo ha.d,aA,aE Uz,e1,aE Uz,Yb ha.d,aA,aE (by rw[aB];omega),aE (by rw[aB];omega),zgv ha.n ha.d b,Vd ha hd,aA,Yb Uz]
  rfl
def qG(a b:Rat):Option Rat:=if S2 a b then some (a+b)else none
def wJ(a b:Rat):Option Rat:=if S2 a b then some (a-b)else none
def qS(a b:Rat):Option Rat:=if Sm a∧Sm b then some (a*b)else none
def jZ(a:Rat):Option Rat:=if S1 a then some (-a)else none
def yx(a b:Rat):Option Int:=if S2 a b then some (wa a b)else none
def qO(a:Rat):Option Int:=if S1 a then some (yB a.num 0)else none
def ws(a b:Rat):Option Bool:=if S2 a b then some (decide (a=b))else none
def qv(a:Rat):Option Bool:=if S1 a then some true else none
def ofG(p q:Int):Option Rat:=if p.natAbs<1000000000∧q.natAbs<1000000000∧0<q then some (Rat.divInt p q)else none
theorem qc{α:Type}{p:Prop}[Decidable p]{x r:α}(h:(if p then some x else none)=some r):p∧r=x:=by
 split at h
 ·next hp=>exact⟨hp,(cW h).symm⟩
 ·cases h
theorem rat2{f:FuncId}{k:Nat}{z:T34n.T→T34n.T→Option T34n.T}{G:Rat→Rat→Option Rat}(h:qz f k [T34n,T34n] T34n fun x=>z x.1 x.2)(i:∀a b r,G a b=some r→z (yk a) (yk b)=some (yk r)):qz f k [.rat,.rat] .rat fun x=>G x.1 x.2:=by
 intro I d s hf W e vs x hx r g c
 exact h d hf e (x:=(yk x.1,yk x.2)) hx (i _ _ _ g) c
theorem rat1{f:FuncId}{k:Nat}{z:T34n.T→Option T34n.T}{G:Rat→Option Rat}(h:qz f k [T34n] T34n z)(g:∀a r,G a=some r→z (yk a)=some (yk r)):qz f k [.rat] .rat G:=by
 intro I c s hf W d vs x hx r e b
 exact h c hf d (x:=yk x) hx (g _ _ e) b
theorem zfT{f:FuncId}{k:Nat}{τ:Ty}{z:T34n.T→T34n.T→Option τ.T}{G:Rat→Rat→Option τ.T}(h:qz f k [T34n,T34n] τ fun x=>z x.1 x.2)(i:∀a b r,G a b=some r→z (yk a) (yk b)=some r):qz f k [.rat,.rat] τ fun x=>G x.1 x.2:=by
 intro I d s hf W e vs x hx r g c
 exact h d hf e (x:=(yk x.1,yk x.2)) hx (i _ _ _ g) c
theorem zfU{f:FuncId}{k:Nat}{τ:Ty}{z:T34n.T→Option τ.T}{G:Rat→Option τ.T}(h:qz f k [T34n] τ z)(g:∀a r,G a=some r→z (yk a)=some r):qz f k [.rat] τ G:=by
 intro I c s hf W d vs x hx r e b
 exact h c hf d (x:=yk x) hx (g _ _ e) b
theorem int2{f:FuncId}{k:Nat}{z:Int→Int→Option T34n.T}{G:Int→Int→Option Rat}(h:qz f k [.int .i64,.int .i64] T34n fun x=>z x.1 x.2)(i:∀a b r,G a b=some r→z a b=some (yk r)):qz f k [.int .i64,.int .i64] .rat fun x=>G x.1 x.2:=by
 intro I d s hf W e vs x hx r g c
 exact h d hf e hx (i _ _ _ g) c
theorem dAddP:qz 30 400 [.rat,.rat] .rat fun x=>qG x.1 x.2:=rat2 (tn30 30 _ rfl) fun a b r h=>by obtain⟨hc,rfl⟩:=qc h;exact addP_Q hc
theorem dSubP:qz 79 408 [.rat,.rat] .rat fun x=>wJ x.1 x.2:=rat2 (tn79 79 _ rfl) fun a b r h=>by obtain⟨hc,rfl⟩:=qc h;exact subP_Q hc
theorem dMulP:qz 122 579 [.rat,.rat] .rat fun x=>qS x.1 x.2:=rat2 (tn122 122 _ rfl) fun a b r h=>by obtain⟨⟨ha,hb⟩,rfl⟩:=qc h;exact mulP_Q ha hb
theorem dCmpP:qz 159 102 [.rat,.rat] (.int .i64) fun x=>yx x.1 x.2:=zfT (tn159 159 _ rfl) fun a b r h=>by obtain⟨hc,rfl⟩:=qc h;exact cmpP_Q hc
theorem dNegP:qz 139 5 [.rat] .rat jZ:=rat1 (tn139 139 _ rfl) fun a r h=>by obtain⟨ha,rfl⟩:=qc h;exact negP_Q a
theorem dSignP:qz 193 3 [.rat] (.int .i64) qO:=zfU (tn193 193 _ rfl) fun a r h=>by obtain⟨ha,rfl⟩:=qc h;exact Q3 a
theorem dAddR:qz 36 1795 [.rat,.rat] .rat fun x=>qG x.1 x.2:=rat2 (tn36 36 _ rfl) fun a b r h=>by obtain⟨hc,rfl⟩:=qc h;exact zgW hc
theorem dSubR:qz 98 1810 [.rat,.rat] .rat fun x=>wJ x.1 x.2:=rat2 (tn98 98 _ rfl) fun a b r h=>by obtain⟨hc,rfl⟩:=qc h;exact subR_ok hc
theorem dMulR:qz 99 1630 [.rat,.rat] .rat fun x=>qS x.1 x.2:=rat2 (tn99 99 _ rfl) fun a b r h=>by obtain⟨⟨ha,hb⟩,rfl⟩:=qc h;exact mulR_ok ha hb
theorem dCmpR:qz 135 112 [.rat,.rat] (.int .i64) fun x=>yx x.1 x.2:=zfT (tn135 135 _ rfl) fun a b r h=>by obtain⟨hc,rfl⟩:=qc h;exact cmpR_ok hc
theorem dNegR:qz 38 12 [.rat] .rat jZ:=rat1 (tn38 38 _ rfl) fun a r h=>by obtain⟨ha,rfl⟩:=qc h;exact zgf ha
theorem dSignR:qz 80 14 [.rat] (.int .i64) qO:=zfU (tn80 80 _ rfl) fun a r h=>by obtain⟨ha,rfl⟩:=qc h;exact signR_ok ha
theorem dSameP:qz 106 12 [.rat,.rat] .bool fun x=>ws x.1 x.2:=zfT (tn106 106 _ rfl) fun a b r h=>by obtain⟨hc,rfl⟩:=qc h;exact sameP_Q hc.1.1
theorem dSameR:qz 109 18 [.rat,.rat] .bool fun x=>ws x.1 x.2:=zfT (tn109 109 _ rfl) fun a b r h=>by obtain⟨hc,rfl⟩:=qc h;exact sameR_ok hc.1.1
theorem dValidP:qz 120 103 [.rat] .bool qv:=zfU (tn120 120 _ rfl) fun a r h=>by obtain⟨ha,rfl⟩:=qc h;exact validP_Q ha
theorem dValidR:qz 110 805 [.rat] .bool qv:=zfU (tn110 110 _ rfl) fun a r h=>by obtain⟨ha,rfl⟩:=qc h;exact validR_ok ha
theorem dOfP:qz 123 241 [.int .i64,.int .i64] .rat fun x=>ofG x.1 x.2:=int2 (tn123 123 _ rfl) fun a b r h=>by obtain⟨⟨ha,hb,h0⟩,rfl⟩:=qc h;exact ofP_Q ha hb h0
theorem dOfR:qz 20 1564 [.int .i64,.int .i64] .rat fun x=>ofG x.1 x.2:=int2 (tn20 20 _ rfl) fun a b r h=>by obtain⟨⟨ha,hb,h0⟩,rfl⟩:=qc h;exact ofR_ok ha hb h0
end Go.Proofs.YtocnbjjmmgolfaaGreat
