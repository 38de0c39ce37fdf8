/- zH law of the number packages: fractions of the program. -/
import Derived.Test.YtocnbjjmmgolfaaGreatA21
set_option linter.unusedSimpArgs false
set_option linter.unusedVariables false
set_option linter.unusedSectionVars false
namespace Go.Proofs.YtocnbjjmmgolfaaGreat
open Go Go.M Go.Proofs.C14
theorem mulP_ok{la lb:List Int}(ha:Dig la)(hb:Dig lb)(la2:la.length≤2)(lb2:lb.length≤2)(s t:Bool) :
 z84 (s,la) (t,lb)=some (zG (sg (!(s==t)) (zY la*zY lb))):=by
 unfold z84
 dsimp only
 by_cases f:la.length=1∧lb.length=1
 ·obtain⟨h1,h2⟩:=f
  obtain⟨x,rfl⟩:=List.length_eq_one_iff.mp h1
  obtain⟨y,rfl⟩:=List.length_eq_one_iff.mp h2
  have j:=ha x Y8
  have d:=hb y Y8
  have hp:0≤x*y:=Int.mul_nonneg j.1 d.1
  have hq:x*y≤999999999*999999999:=Int.mul_le_mul Oz Oz d.1 Uz
  have e:zY [x]*zY [y]=(x*y).toNat:=by
   show(x.toNat+1000000000*0)*(y.toNat+1000000000*0)=_
   rw[Nat.mul_zero,bK,bK,Int.toNat_mul j.1 d.1]
  rw[aF (by rfl),aF (by rfl),show idx [x] 0=some x from rfl,show idx [y] 0=some y from rfl,aA,aA,show x % 18446744073709551616=x by omega,show y % 18446744073709551616=y by omega,e]
  generalize x*y=p at *
  obtain⟨n,rfl⟩:=Int.eq_ofNat_of_zero_le hp
  rw[uZ,aF Oz,aA,wQ Oz,Int.toNat_natCast]
  rfl
 rw[if2 (by rw[aB,aB];omega)]
 have m:(la.length:Int)+(lb.length:Int)=((la.length+lb.length:Nat):Int):=by omega
 rw[m,xZ Oz,aA,aF Oz,Int.toNat_natCast]
 refine zk la.length (fun i (x:Int×List Int)=>x.1=(i:Int)∧MI la lb i 0 0 x.2) (fun o=>o=some (zG (sg (!(s==t)) (zY la*zY lb)))) Oz ⟨rfl,MI.start la lb⟩ ?_ ?_
 ·rintro i ⟨x,out⟩ g hi ⟨rfl,b⟩ hg
  have b:MI la lb i 0 0 out:=b
  dsimp only
  rw[aF (zM hi),xB hi,aA]
  refine zk lb.length (fun k (y:Int×Int×List Int)=>y.2.1=(k:Int)∧MI la lb i k y.1 y.2.2) (fun o=>o=some (zG (sg (!(s==t)) (zY la*zY lb)))) Oz ⟨rfl,b⟩ ?_ ?_
  ·rintro k ⟨c,y,o⟩ q hk ⟨rfl,a⟩ h
   have a:MI la lb i k c o:=a
   obtain⟨w,l⟩:∃w,w=o.getD (i+k) 0+la.getD i 0*lb.getD k 0+c:=⟨_,rfl⟩
   obtain⟨w0,w1,o0,o1⟩:=a.w ha hb
   have c0:=a.c0
   have c1:=a.c1
   have hl:=a.len
   have e1:(i:Int)+(k:Int)=((i+k:Nat):Int):=by omega
   have e2:w-w / 1000000000*1000000000=w % 1000000000:=by omega
   have r:=h (w / 1000000000,((k+1:Nat):Int),o.set (i+k) (w % 1000000000)) ⟨rfl,a.step ha hb hi hk l⟩
   dsimp only
   rw[aF (zM hk),e1]
   simp only[xZ (show((i+k:Nat):Int).natAbs<_ by omega),aA,xB (show i+k<o.length by omega),xB hk,xZ (show(la.getD i 0*lb.getD k 0).natAbs<_ by omega),xZ (show(o.getD (i+k) 0+la.getD i 0*lb.getD k 0).natAbs<_ by omega),←l,xZ (show w.natAbs<_ by omega),aD (show ¬(1000000000:Int)=0 by decide),td9 (show 0≤w by omega),xZ (show(w / 1000000000).natAbs<_ by omega),xZ (show(w / 1000000000*1000000000).natAbs<_ by omega),e2,xZ (show(w % 1000000000).natAbs<_ by omega),zp (show k<100000 by omega),yT,Int.toNat_natCast]
   exact r
  ·rintro⟨c,y,o⟩ q ⟨rfl,a⟩
   have a:MI la lb i lb.length c o:=a
   have hl:=a.len
   have e1:(i:Int)+(lb.length:Int)=((i+lb.length:Nat):Int):=by omega
   dsimp only
   rw[aD Y8,e1]
   simp only[xZ (show((i+lb.length:Nat):Int).natAbs<_ by omega),aA,xB (show i+lb.length<o.length by omega),zp (show i<100000 by omega),yT,Int.toNat_natCast]
   exact hg _ ⟨rfl,a.next hi⟩
 ·rintro⟨x,out⟩ g ⟨rfl,b⟩
  have b:MI la lb la.length 0 0 out:=b
  have hl:=b.len
  dsimp only
  rw[aD Y8,zcj b.dig Oz,b.fin ha hb]
  rfl
theorem vX{a b:Int}(ha:S18 a)(hb:S18 b):z84 (zG a) (zG b)=some (zG (a*b)):=by
 have:=mulP_ok (kW a.natAbs) (kW b.natAbs) (xz ha) (xz hb) (decide (a<0)) (decide (b<0))
 rw[yv,yv,sg_mul]at this
 exact this
theorem JL{m:Nat}(h:m<1000000000000000000):zdK (dg m)=some ((m:Int),true):=by
 unfold zdK
 rcases Vz h with⟨h0,e⟩|⟨h0,h1,e⟩|⟨h1,e⟩<;>rw[e]
 ·rw[aF (by rfl),h0];rfl
 ·rw[aD Y8,aF (by rfl),show idx [((m % 1000000000:Nat):Int)] 0=some ((m % 1000000000:Nat):Int)from rfl,Nat.mod_eq_of_lt Oz];rfl
 ·have h2:((m % 1000000000:Nat):Int)+1000000000*((m / 1000000000:Nat):Int)=m:=by omega
  have h3:((m / 1000000000:Nat):Int).natAbs<1000000000:=by omega
  have h4:((m % 1000000000:Nat):Int).natAbs<1000000000:=by omega
  generalize ((m % 1000000000:Nat):Int)=a at *
  generalize ((m / 1000000000:Nat):Int)=b at *
  rw[aD Y8,aD Y8,aF (by rfl),show idx [a,b] 1=some b from rfl,show idx [a,b] 0=some a from rfl,aA,xZ (x:=b*1000000000) Oz,aA,aA,xZ (x:=b*1000000000+a) Oz,aA,show b*1000000000+a=m by omega]
theorem unsM{n:Nat}(h:n<1000000000000000000):Q3 false ((n:Int) % 18446744073709551616)=some (zG (n:Int)):=by
 rw[show(n:Int) % 18446744073709551616=(n:Int)by omega,wQ h,zbD]
theorem zgK{a b:Int}(ha:S18 a)(hb:S18 b)(h0:b≠0):z146 (zG a) (zG b)=some (zG (Nat.gcd a.natAbs b.natAbs:Nat)):=by
 unfold z146
 rw[show uR false (zG a).2=_ from of_dg a.natAbs ha false,show uR false (zG b).2=_ from of_dg b.natAbs hb false,aA,aA,zbD,zbD,qa,qa,zC 2,ze]
 have l0:(dg b.natAbs).length≠0:=fun h=>by have:=dg_len0.mp h;omega
 have hg:=QP (m:=a.natAbs) hb Oz
 dsimp only
 rw[aF (by rw[aB];omega),JL ha,JL hb,aA,aA,aF rfl,aF rfl,zC 130]
 rw[zeR (fun x=>(Q3 false (x % 18446744073709551616)).bind fun c=>some c) (fun g m=>aD Y8) (fun g m n hn=>by rw[aF (by rw[aB];show(0:Int)<n;omega),aD (by show ¬(n:Int)=0;omega)];rfl) 60 a.natAbs b.natAbs 130 (Nat.lt_trans hb Uz) Uz]
 rw[unsM hg]
 rfl
theorem Yo{n:Int}(hn:S18 n):JE (zG n)=some (decide (n=1)):=by
 unfold JE
 show(if (!decide (n<0))=true then(if decide (((dg n.natAbs).length:Int)=1)=true then(idx (dg n.natAbs) 0).bind _ else _)else _)=_
 by_cases h:n<0
 ·rw[aH h,aD Uz,bA Oz]
 rw[bA h,aF (by rfl)]
 rcases Vz hn with⟨h0,e⟩|⟨h0,h1,e⟩|⟨h1,e⟩<;>rw[e]
 ·rw[aD Y8,bA Oz]
 ·rw[aF (by rfl),show idx [((n.natAbs % 1000000000:Nat):Int)] 0=some ((n.natAbs % 1000000000:Nat):Int)from rfl,aA]
  congr 1
  rw[decide_eq_decide]
  omega
 ·rw[aD Y8,bA Oz]
theorem divide_ok{m n:Nat}(a:m<1000000000000000000)(hn:n<1000000000000000000)(h0:n≠0):zdJ (dg m) (dg n)=some (zG ((m / n:Nat):Int),zG ((m % n:Nat):Int)):=by
 unfold zdJ
 have b:m / n<1000000000000000000:=cC (Nat.div_le_self m n) a
 have e:m % n<1000000000000000000:=cC (Nat.mod_le m n) a
 have c:Int.tdiv (m:Int) (n:Int)=((m / n:Nat):Int):=rfl
 have d:Int.tmod (m:Int) (n:Int)=((m % n:Nat):Int):=rfl
 rw[JL a,aA,aF rfl,JL hn,aA,aF rfl]
 dsimp only
 rw[aD Oz,c,Vf b,aA,aD Oz,d,unsM b,aA,unsM e,aA]
theorem zgO{a g:Int}(ha:S18 a)(hg:0<g)(b:S18 g)(hd:g∣a):z148 (zG a) (zG g)=some (zG (a / g),zG 0):=by
 unfold z148
 have f:a.natAbs % g.natAbs=0:=Nat.mod_eq_zero_of_dvd (Int.natAbs_dvd_natAbs.mpr hd)
 have i:¬(decide (((zG g).2.length:Int)=0))=true:=by
  have:(zG g).2.length≠0:=fun h=>by have:=dg_len0.mp h;omega
  rw[aB];omega
 rw[aD i,show zdJ (zG a).2 (zG g).2=_ from divide_ok ha b Oz,aA,f]
 have hs:sg (!(decide (a<0)==decide (g<0))) (a.natAbs / g.natAbs)=a / g:=sg_div hg hd
 have e:(zG g).1=false:=bA Oz
 have d:zG ((0:Nat):Int)=(false,[]):=kC
 rw[bA (show ¬g<0 by omega)]at hs
 dsimp only
 rw[e,d,←kC]
 show(if decide (a<0)=true then _ else _)=_
 generalize a.natAbs / g.natAbs=q at hs
 by_cases h:a<0
 ·have ea:(zG a).1=true:=aH h
  rw[aH h]at hs ⊢
  rw[aF rfl,kC,aD Y8,ea,aF (by rfl),←hs,qa]
  by_cases c:q=0
  ·subst c;rw[show sg (!(true==false)) 0=0 from rfl,kC,qC];rfl
  ·have:(dg q).length≠0:=fun h=>c (dg_len0.mp h)
   rw[zaG c]
   show some ((decide (0<((dg q).length:Int)),dg q),_)=_
   rw[aH Oz];rfl
 ·have ea:(zG a).1=false:=bA h
  rw[bA h]at hs ⊢
  rw[aD Uz,ea,aD Uz,←hs,qa,show sg (!(false==false)) q=(q:Int)from rfl,qa,kC]
theorem zag(n:Int):z214 (zG n)=some (zG (-n)):=by
 unfold z214
 show(if (!decide (n<0))=true then some (decide (0<((dg n.natAbs).length:Int)),dg n.natAbs)else some (false,dg n.natAbs))=some (decide (-n<0),dg (-n).natAbs)
 rw[Int.natAbs_neg]
 have hl:=dg_len0 (n:=n.natAbs)
 by_cases h:n<0
 ·rw[aH h,aD Uz,bA Oz]
 ·rw[bA h,aF (by rfl)]
  congr 2
  rw[decide_eq_decide]
  omega
theorem Xo{P U:Int}(a:S18 U):zdP (zG P) (zG U)=some (zG (if U<0 then -P else P),if decide ((if U<0 then -U else U)=1)=true then(false,[])else zG (if U<0 then -U else U)):=by
 unfold zdP
 show(if decide (U<0)=true then _ else _)=_
 by_cases h:U<0
 ·rw[aF (aH h),aF h,aF h,zag,zag,aA,aA,Yo (zgd a),aA]
  split<;>rfl
 ·rw[aD (by rw[aB];exact h),aD h,aD h,Yo a,aA]
  split<;>rfl
theorem zcM{q:Rat}{z:Int}(h:(q.den:Int)=z):(if q.den=1 then(false,([]:List Int))else zG (q.den:Int))=if decide (z=1)=true then(false,[])else zG z:=by
 subst h
 by_cases h:q.den=1
 ·rw[aF h,aF (aH Oz)]
 ·rw[aD h,aD (by rw[aB];omega)]
theorem YF{p q:Int}(hp:S18 p)(a:S18 q)(h0:q≠0):z83 (zG p) (zG q)=some (yk (Rat.divInt p q)):=by
 unfold z83
 have lq:(zG q).2.length≠0:=fun h=>by have:=dg_len0.mp h;omega
 rw[aD (by rw[aB];omega)]
 by_cases e:p=0
 ·subst e
  rw[aF (by rw[kC];rfl),Rat.zero_divInt,kN,aF (show(0:Rat).den=1 from rfl),show(0:Rat).num=0 from rfl,kC]
 have lp:(zG p).2.length≠0:=fun h=>by have:=dg_len0.mp h;omega
 rw[aD (by rw[aB];omega),zgK hp a h0,aA]
 have hg:=QP (m:=p.natAbs) a Oz
 have hgp:=zas (p:=p) h0
 have e1:=Zs (p:=p) h0
 have e2:=zcT (p:=p) h0
 have d:=YR (p:=p) h0
 have c:((Nat.gcd p.natAbs q.natAbs:Nat):Int)∣p:=Int.ofNat_dvd_left.mpr (Nat.gcd_dvd_left _ _)
 have b:((Nat.gcd p.natAbs q.natAbs:Nat):Int)∣q:=Int.ofNat_dvd_left.mpr (Nat.gcd_dvd_right _ _)
 generalize Nat.gcd p.natAbs q.natAbs=G at *
 rw[Yo (s18 hg),aA,kN,zcM e2,e1]
 simp only[←d]
 by_cases h1:G=1
 ·subst h1
  rw[aD Uz,Xo a,aA,Int.natCast_one,Int.ediv_one,Int.ediv_one]
 ·rw[aF (by rw[bA Oz];rfl),zgO hp Oz (s18 hg) c,zgO a Oz (s18 hg) b,aA,aA,Xo (Kw a b),aA]
theorem one_P:z145=some (zG 1):=by unfold z145;rw[KR Uz];rfl
theorem wY(q:Rat):z82 (yk q)=some (zG (q.den:Int)):=by
 unfold z82
 rw[kN]
 by_cases hd:q.den=1
 ·rw[aF hd,aF (by rfl),one_P,hd];rfl
 ·have hl:(zG (q.den:Int)).2.length≠0:=fun g=>by rw[qa]at g;exact q.den_nz (dg_len0.mp g)
  rw[aD hd,aD (by rw[aB];show ¬(((zG (q.den:Int)).2.length:Int)=0);omega)]
theorem gO(q:Rat):decide (((yk q).2.2.length:Int)=0)=decide (q.den=1):=by
 rw[decide_eq_decide,kN]
 by_cases hd:q.den=1
 ·rw[aF hd];exact⟨fun _=>hd,fun _=>rfl⟩
 ·have hl:(zG (q.den:Int)).2.length≠0:=fun g=>by rw[qa]at g;exact q.den_nz (dg_len0.mp g)
  rw[aD hd];exact⟨fun h=>absurd h (show ¬(((zG (q.den:Int)).2.length:Int)=0)by omega),fun h=>absurd h hd⟩
theorem Ye(q:Rat):decide (((yk q).1.2.length:Int)=0)=decide (q=0):=by
 rw[decide_eq_decide]
 have:(yk q).1.2.length=0↔q.num=0:=dg_len0.trans Int.natAbs_eq_zero
 rw[←Rat.num_eq_zero,←this]
 omega
theorem uq{q:Rat}(h:q.den=1):yk q=(zG q.num,false,[]):=by rw[kN,aF h]
theorem addP_Q{a b:Rat}(h:S2 a b):z30 (yk a) (yk b)=some (yk (a+b)):=by
 unfold z30
 have h1:=h.2.1
 have h2:=h.2.2.1
 have h3:=h.2.2.2
 have e:((a.den:Int)*(b.den:Int))=((a.den*b.den:Nat):Int):=(Int.natCast_mul ..).symm
 rw[gO,gO,Ye,Ye,wY,wY,kD,kD]
 by_cases c:a.den=1∧b.den=1
 ·obtain⟨e1,e2⟩:=add_int c.1 c.2
  rw[aF (aH c.1),aF (aH c.2),zhm h.1.1.n h.1.2.n,aA,uq e2,e1]
 rw[if2 (by rw[aB,aB];exact c)]
 by_cases a0:a=0
 ·subst a0;rw[aF (by rfl),Rat.zero_add]
 rw[aD (by rw[aB];exact a0)]
 by_cases f:b=0
 ·subst f;rw[aF (by rfl),Rat.add_zero]
 rw[aD (by rw[aB];exact f),aA,aA,vX h.1.1.n h.1.2.d,aA,vX h.1.2.n h.1.1.d,aA,zhm (by unfold S18;omega) (by unfold S18;omega),aA,vX h.1.1.d h.1.2.d,aA,YF (by unfold S18;omega) (by rw[e];exact s18 Oz) (dd_ne a b),aA,zhj]
theorem negP_Q(a:Rat):z139 (yk a)=some (yk (-a)):=by
 unfold z139
 rw[kD,zag,aA,kN (-a),kN a,Rat.neg_num,Rat.neg_den]
theorem subP_Q{a b:Rat}(h:S2 a b):z79 (yk a) (yk b)=some (yk (a-b)):=by
 unfold z79
 rw[negP_Q,aA,addP_Q h.neg,aA,Rat.sub_eq_add_neg]
theorem mulP_Q{a b:Rat}(ha:Sm a)(hb:Sm b):z122 (yk a) (yk b)=some (yk (a*b)):=by
 unfold z122
 rw[gO,gO,Ye,Ye,wY,wY,kD,kD]
 by_cases a0:a=0
 ·subst a0;rw[aF (by rfl),Rat.zero_mul];rw[uq rfl,show(0:Rat).num=0 from rfl,kC]
 rw[aD (by rw[aB];exact a0)]
 by_cases g:b=0
 ·subst g;rw[aF (by rfl),Rat.mul_zero];rw[uq rfl,show(0:Rat).num=0 from rfl,kC]
 rw[aD (by rw[aB];exact g)]
 by_cases c:a.den=1∧b.den=1
 ·obtain⟨e1,e2⟩:=mul_int c.1 c.2
  rw[aF (aH c.1),aF (aH c.2),vX ha.n hb.n,aA,uq e2,e1]
 rw[if2 (by rw[aB,aB];exact c)]
 have da:=a.den_nz
 have db:=b.den_nz
 obtain⟨m1,m2⟩:=zev a b
 have h:=bd_mkRat (n:=a.num) (d:=b.den)
 have i:=bd_mkRat (n:=b.num) (d:=a.den)
 have f:=ha.1
 have ha2:=ha.2
 have hb1:=hb.1
 have hb2:=hb.2
 have j:(mkRat a.num b.den).num.natAbs<500000000:=cC h.1 f
 have x2:(mkRat a.num b.den).den<500000000:=by have:=h.2;omega
 have k:(mkRat b.num a.den).num.natAbs<500000000:=cC i.1 hb1
 have l:(mkRat b.num a.den).den<500000000:=by have:=i.2;omega
 have sx:Sm (mkRat a.num b.den):=⟨j,x2⟩
 have sy:Sm (mkRat b.num a.den):=⟨k,l⟩
 have h3:=sx.dd sy
 rw[aA,YF ha.n hb.d Oz,aA,aA,YF hb.n ha.d Oz,aA,Rat.divInt_ofNat,Rat.divInt_ofNat,kD,kD,vX sx.n sy.n,aA,wY,wY,aA,aA,vX sx.d sy.d,aA]
 have e:(((mkRat a.num b.den).den:Int)*((mkRat b.num a.den).den:Int))=((a*b).den:Int):=by rw[m2,Int.natCast_mul]
 have hn:¬((a*b).den:Int)<0:=by omega
 rw[←m1,e,Xo (U:=((a*b).den:Int)) (s18 (by rw[m2];omega)),aA]
 simp only[aD hn]
 rw[kN,zcM rfl]
theorem zcY{m n:Int}(a:S18 m)(hn:S18 n):z221 (zG m) (zG n)=some (yC m n):=by
 unfold z221
 have b:=xz a
 have l2:=xz hn
 have e1:Y2 (zG n).2 (zG m).2=some (uM n.natAbs m.natAbs):=(VE l2).trans (by rw[←Zm];rfl)
 have e2:Y2 (zG m).2 (zG n).2=some (uM m.natAbs n.natAbs):=(VE b).trans (by rw[←Zm];rfl)
 rw[e1,e2,aA,aA]
 show(if (!(decide (m<0)==decide (n<0)))=true then(if decide (m<0)=true then _ else(if (!(decide (m<0)==decide (n<0)))=true then _ else _))else(if (!(decide (m<0)==decide (n<0)))=true then _ else(if decide (m<0)=true then _ else _)))=_
 by_cases h1:m<0<;>by_cases h2:n<0
 ·rw[aH h1,aH h2,aD Uz,aD Uz,aF rfl]
  congr 1
  unfold uM yC
  split<;>split<;>(try split)<;>(try split)<;>first|rfl|omega
 ·rw[aH h1,bA h2,aF Uz,aF rfl,yC,aF Oz]
 ·rw[bA h1,aH h2,aF Uz,aD Uz,aF Uz,yC,aD Oz,aF Oz]
 ·rw[bA h1,bA h2,aD Uz,aD Uz,aD Uz]
  congr 1
  unfold uM yC
  split<;>split<;>(try split)<;>(try split)<;>first|rfl|omega
theorem Ks(a:Rat):z193 (yk a)=some (yC a.num 0):=by
 unfold z193 z239
 rw[kD]
 show((if decide (a.num<0)=true then _ else(if decide (((dg a.num.natAbs).length:Int)=0)=true then _ else _)):Option Int).bind _=_
 have hl:=dg_len0 (n:=a.num.natAbs)
 unfold yC
 by_cases h:a.num<0
 ·rw[aF (aH h),aF h];rfl
 ·rw[aD (by rw[aB];exact h),aD h]
  by_cases h0:a.num=0
  ·rw[aF (by rw[aB];omega),aD Oz];rfl
  ·rw[aD (by rw[aB];omega),aF Oz];rfl
theorem zgv{x:Int}{d:Nat}(hd:d≠0):(x*(d:Int)<0↔x<0)∧(0<x*(d:Int)↔0<x):=by
 have h1:x<0→x*(d:Int)<0:=fun h=>Int.mul_neg_of_neg_of_pos h Oz
 have h2:0<x→0<x*(d:Int):=fun h=>Int.mul_pos h Oz
 have h3:x=0→x*(d:Int)=0:=fun h=>by rw[h,Int.zero_mul]
 omega
theorem cmpP_Q{a b:Rat}(h:S2 a b):z159 (yk a) (yk b)=some (wd a b):=by
 unfold z159
 have h1:=h.2.1
 have h2:=h.2.2.1
 have s1:=zgv (x:=a.num) b.den_nz
 have s2:=zgv (x:=b.num) a.den_nz
 have r1:yC a.num 0 = -1∨yC a.num 0=0∨yC a.num 0=1:=by unfold yC;split<;>(try split)<;>simp
 have r2:yC b.num 0 = -1∨yC b.num 0=0∨yC b.num 0=1:=by unfold yC;split<;>(try split)<;>simp
 have t1:S18 (yC a.num 0):=by rcases r1 with h|h|h<;>rw[h]<;>decide
 have t2:S18 (yC b.num 0):=by rcases r2 with h|h|h<;>rw[h]<;>decide
 rw[Ks,Ks,aA,aA,KR t1,KR t2,aA,aA,zcY t1 t2,wY,wY,kD,kD,←zaO]
 have hc:yC a.num 0≠yC b.num 0∨yC a.num 0=0→yC (yC a.num 0) (yC b.num 0)=yC (a.num*b.den) (b.num*a.den):=by
  intro h
  unfold yC at *
  split<;>split<;>(try split)<;>(try split)<;>(try split)<;>(try split)<;>omega
 by_cases c1:yC a.num 0=yC b.num 0
 ·rw[aD (by rw[aB];exact fun x=>x c1)]
  by_cases c:yC a.num 0=0
  ·rw[aF (aH c),aA,hc (.inr c)]
  ·rw[aD (by rw[aB];exact c),aA,vX h.1.1.n h.1.2.d,aA,aA,vX h.1.2.n h.1.1.d,aA,zcY (by unfold S18;omega) (by unfold S18;omega),aA]
 ·rw[aF (aH c1),aA,hc (.inl c1)]
theorem ofP_Q{p q:Int}(hp:p.natAbs<1000000000)(hq:q.natAbs<1000000000)(h0:0<q):z123 p q=some (yk (Rat.divInt p q)):=by
 unfold z123
 rw[KR (by unfold S18;omega),aA,KR (by unfold S18;omega),aA,YF (by unfold S18;omega) (by unfold S18;omega) Oz]
 rfl
theorem sameP1{s t:Bool}{la lb:List Int}(a:la.length≤2):zdN (s,la) (t,lb)=some (decide ((s,la)=(t,lb))):=by
 unfold zdN
 show(if (s==t)=true then(if decide ((la.length:Int)≠(lb.length:Int))=true then _ else _)else _)=_
 by_cases h:s=t
 ·subst h
  rw[aF Y8]
  by_cases hl:la.length=lb.length
  ·rw[aD (by simp[hl]),sameL hl a Uz]
   congr 1
   rw[decide_eq_decide,Prod.mk.injEq]
   simp
  ·rw[aF (by rw[aB];omega),bA]
   rintro h
   exact hl (congrArg (fun x=>x.2.length) h)
 ·rw[aD (by simpa using h),bA]
  rintro g
  exact h (congrArg Prod.fst g)
theorem sameP_Q{a b:Rat}(ha:S1 a):z106 (yk a) (yk b)=some (decide (a=b)):=by
 unfold z106
 obtain⟨c,l2⟩:=zcL ha
 rw[show zdN (yk a).1 (yk b).1=_ from sameP1 c,show zdN (yk a).2 (yk b).2=_ from sameP1 l2,aA]
 exact zbE rfl rfl
theorem ZA{n:Int}(hn:S18 n):z196 (zG n)=some true:=by
 unfold z196
 have hl:=xz hn
 have hd:=kW n.natAbs
 refine zk (dg n.natAbs).length (fun i (x:Int)=>x=(i:Int)) (fun o=>o=some true) Oz rfl ?_ ?_
 ·rintro i x g hi rfl hg
  have:=hd.at i
  have e:idx (zG n).2 (i:Int)=some ((dg n.natAbs).getD i 0):=xB hi
  rw[aF (show decide ((i:Int)<((zG n).2.length:Int))=true from zM hi),e,aA,z245,aD (by rw[aB];omega),aA,aD (by rw[aB];omega),zp Oz,aA]
  exact hg _ rfl
 ·rintro x g rfl
  rw[aD (by simp[zG])]
  show(if decide (((dg n.natAbs).length:Int)=0)=true then(if (!decide (n<0))=true then _ else _)else(if decide (0<((dg n.natAbs).length:Int))=true then(i64 (((dg n.natAbs).length:Int)-1)).bind fun a=>(idx (dg n.natAbs) a).bind _ else _))=_
  by_cases h0:(dg n.natAbs).length=0
  ·have:=dg_len0.mp h0
   rw[aF (by rw[h0];rfl),bA Oz]
   rfl
  ·have e:((dg n.natAbs).length:Int)-1=(((dg n.natAbs).length-1:Nat):Int):=by omega
   have h:=zgC hn h0
   rw[aD (by rw[aB];omega),aF (by rw[aB];omega),e,xZ Oz,aA,xB Oz,aA,aH h]
theorem validP_Q{a:Rat}(ha:S1 a):z120 (yk a)=some true:=by
 unfold z120
 have c:z196 (false,[])=some true:=by rw[←kC];exact ZA Uz
 have b:(a.den:Int)≠0:=by have:=a.den_nz;omega
 rw[kD,ZA ha.n,aA,aD Uz]
 rcases zeU ha with⟨hd,e⟩|⟨hd,e,hl⟩<;>rw[e]
 ·rw[c,aA,aD Uz,aD Uz,show JE (false,[])=some false from rfl,aA,aD Uz,aF (by rfl)]
 ·have e1:(zG (a.den:Int)).1=false:=by rw[qa]
  rw[ZA ha.d,aA,aD Uz,e1,aD Uz,Yo ha.d,aA,aD (by rw[aB];omega),aD (by rw[aB];omega),zgK ha.n ha.d b,Vs ha hd,aA,Yo Uz]
  rfl
def qJ(a b:Rat):Option Rat:=if S2 a b then some (a+b)else none
def wO(a b:Rat):Option Rat:=if S2 a b then some (a-b)else none
def qT(a b:Rat):Option Rat:=if Sm a∧Sm b then some (a*b)else none
def j7(a:Rat):Option Rat:=if S1 a then some (-a)else none
def yw(a b:Rat):Option Int:=if S2 a b then some (wd a b)else none
def qP(a:Rat):Option Int:=if S1 a then some (yC a.num 0)else none
def wy(a b:Rat):Option Bool:=if S2 a b then some (decide (a=b))else none
def qz(a:Rat):Option Bool:=if S1 a then some true else none
def ofG(p q:Int):Option Rat:=if p.natAbs<1000000000∧q.natAbs<1000000000∧0<q then some (Rat.divInt p q)else none
theorem qe{α:Type}{p:Prop}[Decidable p]{x r:α}(h:(if p then some x else none)=some r):p∧r=x:=by
 split at h
 ·next hp=>exact⟨hp,(cR h).symm⟩
 ·cases h
theorem rat2{f:FuncId}{k:Nat}{z:T34n.T→T34n.T→Option T34n.T}{G:Rat→Rat→Option Rat}(h:qA f k [T34n,T34n] T34n fun x=>z x.1 x.2)(i:∀a b r,G a b=some r→z (yk a) (yk b)=some (yk r)):qA f k [.rat,.rat] .rat fun x=>G x.1 x.2:=by
 intro I d s hf W e vs x hx r g c
 exact h d hf e (x:=(yk x.1,yk x.2)) hx (i _ _ _ g) c
theorem rat1{f:FuncId}{k:Nat}{z:T34n.T→Option T34n.T}{G:Rat→Option Rat}(h:qA f k [T34n] T34n z)(g:∀a r,G a=some r→z (yk a)=some (yk r)):qA f k [.rat] .rat G:=by
 intro I c s hf W d vs x hx r e b
 exact h c hf d (x:=yk x) hx (g _ _ e) b
theorem zgh{f:FuncId}{k:Nat}{τ:Ty}{z:T34n.T→T34n.T→Option τ.T}{G:Rat→Rat→Option τ.T}(h:qA f k [T34n,T34n] τ fun x=>z x.1 x.2)(i:∀a b r,G a b=some r→z (yk a) (yk b)=some r):qA f k [.rat,.rat] τ fun x=>G x.1 x.2:=by
 intro I d s hf W e vs x hx r g c
 exact h d hf e (x:=(yk x.1,yk x.2)) hx (i _ _ _ g) c
theorem zgi{f:FuncId}{k:Nat}{τ:Ty}{z:T34n.T→Option τ.T}{G:Rat→Option τ.T}(h:qA f k [T34n] τ z)(g:∀a r,G a=some r→z (yk a)=some r):qA f k [.rat] τ G:=by
 intro I c s hf W d vs x hx r e b
 exact h c hf d (x:=yk x) hx (g _ _ e) b
theorem int2{f:FuncId}{k:Nat}{z:Int→Int→Option T34n.T}{G:Int→Int→Option Rat}(h:qA f k [.int .i64,.int .i64] T34n fun x=>z x.1 x.2)(i:∀a b r,G a b=some r→z a b=some (yk r)):qA f k [.int .i64,.int .i64] .rat fun x=>G x.1 x.2:=by
 intro I d s hf W e vs x hx r g c
 exact h d hf e hx (i _ _ _ g) c
theorem dAddP:qA 30 400 [.rat,.rat] .rat fun x=>qJ x.1 x.2:=rat2 (tn30 30 _ rfl) fun a b r h=>by obtain⟨hc,rfl⟩:=qe h;exact addP_Q hc
theorem dSubP:qA 79 408 [.rat,.rat] .rat fun x=>wO x.1 x.2:=rat2 (tn79 79 _ rfl) fun a b r h=>by obtain⟨hc,rfl⟩:=qe h;exact subP_Q hc
theorem dMulP:qA 122 579 [.rat,.rat] .rat fun x=>qT x.1 x.2:=rat2 (tn122 122 _ rfl) fun a b r h=>by obtain⟨⟨ha,hb⟩,rfl⟩:=qe h;exact mulP_Q ha hb
theorem dCmpP:qA 159 102 [.rat,.rat] (.int .i64) fun x=>yw x.1 x.2:=zgh (tn159 159 _ rfl) fun a b r h=>by obtain⟨hc,rfl⟩:=qe h;exact cmpP_Q hc
theorem dNegP:qA 139 5 [.rat] .rat j7:=rat1 (tn139 139 _ rfl) fun a r h=>by obtain⟨ha,rfl⟩:=qe h;exact negP_Q a
theorem dSignP:qA 193 3 [.rat] (.int .i64) qP:=zgi (tn193 193 _ rfl) fun a r h=>by obtain⟨ha,rfl⟩:=qe h;exact Ks a
theorem dAddR:qA 36 1795 [.rat,.rat] .rat fun x=>qJ x.1 x.2:=rat2 (tn36 36 _ rfl) fun a b r h=>by obtain⟨hc,rfl⟩:=qe h;exact zhl hc
theorem dSubR:qA 98 1810 [.rat,.rat] .rat fun x=>wO x.1 x.2:=rat2 (tn98 98 _ rfl) fun a b r h=>by obtain⟨hc,rfl⟩:=qe h;exact subR_ok hc
theorem dMulR:qA 99 1630 [.rat,.rat] .rat fun x=>qT x.1 x.2:=rat2 (tn99 99 _ rfl) fun a b r h=>by obtain⟨⟨ha,hb⟩,rfl⟩:=qe h;exact mulR_ok ha hb
theorem dCmpR:qA 135 112 [.rat,.rat] (.int .i64) fun x=>yw x.1 x.2:=zgh (tn135 135 _ rfl) fun a b r h=>by obtain⟨hc,rfl⟩:=qe h;exact cmpR_ok hc
theorem dNegR:qA 38 12 [.rat] .rat j7:=rat1 (tn38 38 _ rfl) fun a r h=>by obtain⟨ha,rfl⟩:=qe h;exact zgt ha
theorem dSignR:qA 80 14 [.rat] (.int .i64) qP:=zgi (tn80 80 _ rfl) fun a r h=>by obtain⟨ha,rfl⟩:=qe h;exact signR_ok ha
theorem dSameP:qA 106 12 [.rat,.rat] .bool fun x=>wy x.1 x.2:=zgh (tn106 106 _ rfl) fun a b r h=>by obtain⟨hc,rfl⟩:=qe h;exact sameP_Q hc.1.1
theorem dSameR:qA 109 18 [.rat,.rat] .bool fun x=>wy x.1 x.2:=zgh (tn109 109 _ rfl) fun a b r h=>by obtain⟨hc,rfl⟩:=qe h;exact sameR_ok hc.1.1
theorem dValidP:qA 120 103 [.rat] .bool qz:=zgi (tn120 120 _ rfl) fun a r h=>by obtain⟨ha,rfl⟩:=qe h;exact validP_Q ha
theorem dValidR:qA 110 805 [.rat] .bool qz:=zgi (tn110 110 _ rfl) fun a r h=>by obtain⟨ha,rfl⟩:=qe h;exact validR_ok ha
theorem dOfP:qA 123 241 [.int .i64,.int .i64] .rat fun x=>ofG x.1 x.2:=int2 (tn123 123 _ rfl) fun a b r h=>by obtain⟨⟨ha,hb,h0⟩,rfl⟩:=qe h;exact ofP_Q ha hb h0
theorem dOfR:qA 20 1564 [.int .i64,.int .i64] .rat fun x=>ofG x.1 x.2:=int2 (tn20 20 _ rfl) fun a b r h=>by obtain⟨⟨ha,hb,h0⟩,rfl⟩:=qe h;exact ofR_ok ha hb h0
end Go.Proofs.YtocnbjjmmgolfaaGreat
