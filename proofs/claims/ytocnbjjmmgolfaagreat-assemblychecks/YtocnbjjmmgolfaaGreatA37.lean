/- zQ law of the number packages: fractions of the program. -/
/- Fractions: calls with plain results. -/
/- zQ law: numbers over a common denominator, and when the program's numbers are small. -/
import Derived.Test.YtocnbjjmmgolfaaGreatA36
namespace Go.Proofs.YtocnbjjmmgolfaaGreat
open Go Go.M Go.Proofs.C14
set_option linter.unusedSimpArgs false
theorem mulP_ok{la lb:List Int}(ha:Dig la)(hb:Dig lb)(la2:la.length≤2)(lb2:lb.length≤2)(s t:Bool) :
  z84 (s,la) (t,lb)=some (zw (sg (!(s==t)) (zE la*zE lb))):=by
 unfold z84
 dsimp only
 by_cases h11:la.length=1∧lb.length=1
 ·obtain⟨h1,h2⟩:=h11
  obtain⟨x,rfl⟩:=List.length_eq_one_iff.mp h1
  obtain⟨y,rfl⟩:=List.length_eq_one_iff.mp h2
  have dx:=ha x Y8
  have dy:=hb y Y8
  have hp:0≤x*y:=Int.mul_nonneg dx.1 dy.1
  have hq:x*y≤999999999*999999999:=Int.mul_le_mul Oz Oz dy.1 Uz
  have e:zE [x]*zE [y]=(x*y).toNat:=by
   show(x.toNat+1000000000*0)*(y.toNat+1000000000*0)=_
   rw[Nat.mul_zero,Nat.add_zero,Nat.add_zero,Int.toNat_mul dx.1 dy.1]
  rw[if_pos (by rfl),if_pos (by rfl),show idx [x] 0=some x from rfl,show idx [y] 0=some y from rfl,Option.bind_some,Option.bind_some,show x % 18446744073709551616=x by omega,show y % 18446744073709551616=y by omega,e]
  generalize x*y=p at *
  obtain⟨n,rfl⟩:=Int.eq_ofNat_of_zero_le hp
  rw[uZ,if_pos Oz,Option.bind_some,unsigned_ok Oz,Int.toNat_natCast]
  rfl
 rw[if2 (by rw[decide_eq_true_eq,decide_eq_true_eq];omega)]
 have e0:(la.length:Int)+(lb.length:Int)=((la.length+lb.length:Nat):Int):=by omega
 rw[e0,yF Oz,Option.bind_some,if_pos Oz,Int.toNat_natCast]
 refine zi la.length (fun i (x:Int×List Int)=>x.1=(i:Int)∧MI la lb i 0 0 x.2) (fun o=>o=some (zw (sg (!(s==t)) (zE la*zE lb)))) Oz ⟨rfl,MI.start la lb⟩ ?_ ?_
 ·rintro i ⟨x,out⟩ g hi ⟨rfl,hM⟩ hg
  have hM:MI la lb i 0 0 out:=hM
  dsimp only
  rw[if_pos (zr hi),yx hi,Option.bind_some]
  refine zi lb.length (fun k (y:Int×Int×List Int)=>y.2.1=(k:Int)∧MI la lb i k y.1 y.2.2) (fun o=>o=some (zw (sg (!(s==t)) (zE la*zE lb)))) Oz ⟨rfl,hM⟩ ?_ ?_
  ·rintro k ⟨c,y,o⟩ g' hk ⟨rfl,hN⟩ hg'
   have hN:MI la lb i k c o:=hN
   obtain⟨w,hw⟩:∃w,w=o.getD (i+k) 0+la.getD i 0*lb.getD k 0+c:=⟨_,rfl⟩
   obtain⟨w0,w1,o0,o1⟩:=hN.w ha hb
   have c0:=hN.c0
   have c1:=hN.c1
   have hl:=hN.len
   have e1:(i:Int)+(k:Int)=((i+k:Nat):Int):=by omega
   have e2:w-w / 1000000000*1000000000=w % 1000000000:=by omega
   have hy:=hg' (w / 1000000000,((k+1:Nat):Int),o.set (i+k) (w % 1000000000)) ⟨rfl,hN.step ha hb hi hk hw⟩
   dsimp only
   rw[if_pos (zr hk),e1]
   simp only[yF (show((i+k:Nat):Int).natAbs<_ by omega),Option.bind_some,yx (show i+k<o.length by omega),yx hk,yF (show(la.getD i 0*lb.getD k 0).natAbs<_ by omega),yF (show(o.getD (i+k) 0+la.getD i 0*lb.getD k 0).natAbs<_ by omega),←hw,yF (show w.natAbs<_ by omega),if_neg (show ¬(1000000000:Int)=0 by decide),td9 (show 0≤w by omega),yF (show(w / 1000000000).natAbs<_ by omega),yF (show(w / 1000000000*1000000000).natAbs<_ by omega),e2,yF (show(w % 1000000000).natAbs<_ by omega),zl (show k<100000 by omega),yE,Int.toNat_natCast]
   exact hy
  ·rintro⟨c,y,o⟩ g' ⟨rfl,hN⟩
   have hN:MI la lb i lb.length c o:=hN
   have hl:=hN.len
   have e1:(i:Int)+(lb.length:Int)=((i+lb.length:Nat):Int):=by omega
   dsimp only
   rw[if_neg Y8,e1]
   simp only[yF (show((i+lb.length:Nat):Int).natAbs<_ by omega),Option.bind_some,yx (show i+lb.length<o.length by omega),zl (show i<100000 by omega),yE,Int.toNat_natCast]
   exact hg _ ⟨rfl,hN.next hi⟩
 ·rintro⟨x,out⟩ g ⟨rfl,hM⟩
  have hM:MI la lb la.length 0 0 out:=hM
  have hl:=hM.len
  dsimp only
  rw[if_neg Y8,of_ok hM.dig Oz,hM.fin ha hb]
  rfl
theorem mulZP_ok{a b:Int}(ha:S18 a)(hb:S18 b):z84 (zw a) (zw b)=some (zw (a*b)):=by
 have:=mulP_ok (xV a.natAbs) (xV b.natAbs) (yv ha) (yv hb) (decide (a<0)) (decide (b<0))
 rw[zX,zX,sg_mul]at this
 exact this
theorem two_ok{m:Nat}(h:m<1000000000000000000):z216 (dg m)=some ((m:Int),true):=by
 unfold z216
 rcases dg_two h with⟨h0,e⟩|⟨h0,h1,e⟩|⟨h1,e⟩<;>rw[e]
 ·rw[if_pos (by rfl),h0];rfl
 ·rw[if_neg Y8,if_pos (by rfl),show idx [((m % 1000000000:Nat):Int)] 0=some ((m % 1000000000:Nat):Int)from rfl,Nat.mod_eq_of_lt Oz];rfl
 ·have h2:((m % 1000000000:Nat):Int)+1000000000*((m / 1000000000:Nat):Int)=m:=by omega
  have h3:((m / 1000000000:Nat):Int).natAbs<1000000000:=by omega
  have h4:((m % 1000000000:Nat):Int).natAbs<1000000000:=by omega
  generalize ((m % 1000000000:Nat):Int)=a at *
  generalize ((m / 1000000000:Nat):Int)=b at *
  rw[if_neg Y8,if_neg Y8,if_pos (by rfl),show idx [a,b] 1=some b from rfl,show idx [a,b] 0=some a from rfl,Option.bind_some,yF (x:=b*1000000000) Oz,Option.bind_some,Option.bind_some,yF (x:=b*1000000000+a) Oz,Option.bind_some,show b*1000000000+a=m by omega]
theorem unsM{n:Nat}(h:n<1000000000000000000):z150 false ((n:Int) % 18446744073709551616)=some (zw (n:Int)):=by
 rw[show(n:Int) % 18446744073709551616=(n:Int)by omega,unsigned_ok h,sg_ff]
theorem gcdP_ok{a b:Int}(ha:S18 a)(hb:S18 b)(h0:b≠0):z146 (zw a) (zw b)=some (zw (Nat.gcd a.natAbs b.natAbs:Nat)):=by
 unfold z146
 rw[show z141 false (zw a).2=_ from of_dg a.natAbs ha false,show z141 false (zw b).2=_ from of_dg b.natAbs hb false,Option.bind_some,Option.bind_some,sg_ff,sg_ff,yQ,yQ,zm 2,za]
 have l0:(dg b.natAbs).length≠0:=fun h=>by have:=dg_len0.mp h;omega
 have hg:=gcd_lim (m:=a.natAbs) hb Oz
 dsimp only
 rw[if_pos (by rw[decide_eq_true_eq];omega),two_ok ha,two_ok hb,Option.bind_some,Option.bind_some,if_pos rfl,if_pos rfl,zm 130]
 rw[euclid (fun x=>(z150 false (x % 18446744073709551616)).bind fun r7=>some r7) (fun g m=>if_neg Y8) (fun g m n hn=>by rw[if_pos (by rw[decide_eq_true_eq];show(0:Int)<n;omega),if_neg (by show ¬(n:Int)=0;omega)];rfl) 60 a.natAbs b.natAbs 130 (Nat.lt_trans hb Uz) Uz]
 rw[unsM hg]
 rfl
theorem unit_ok{n:Int}(hn:S18 n):z147 (zw n)=some (decide (n=1)):=by
 unfold z147
 show(if (!decide (n<0))=true then(if decide (((dg n.natAbs).length:Int)=1)=true then(idx (dg n.natAbs) 0).bind _ else _)else _)=_
 by_cases h:n<0
 ·rw[decide_eq_true h,if_neg Uz,decide_eq_false Oz]
 rw[decide_eq_false h,if_pos (by rfl)]
 rcases dg_two hn with⟨h0,e⟩|⟨h0,h1,e⟩|⟨h1,e⟩<;>rw[e]
 ·rw[if_neg Y8,decide_eq_false Oz]
 ·rw[if_pos (by rfl),show idx [((n.natAbs % 1000000000:Nat):Int)] 0=some ((n.natAbs % 1000000000:Nat):Int)from rfl,Option.bind_some]
  congr 1
  rw[decide_eq_decide]
  omega
 ·rw[if_neg Y8,decide_eq_false Oz]
theorem divide_ok{m n:Nat}(hm:m<1000000000000000000)(hn:n<1000000000000000000)(h0:n≠0):z217 (dg m) (dg n)=some (zw ((m / n:Nat):Int),zw ((m % n:Nat):Int)):=by
 unfold z217
 have hq:m / n<1000000000000000000:=Nat.lt_of_le_of_lt (Nat.div_le_self m n) hm
 have hr:m % n<1000000000000000000:=Nat.lt_of_le_of_lt (Nat.mod_le m n) hm
 have eq:Int.tdiv (m:Int) (n:Int)=((m / n:Nat):Int):=rfl
 have er:Int.tmod (m:Int) (n:Int)=((m % n:Nat):Int):=rfl
 rw[two_ok hm,Option.bind_some,if_pos rfl,two_ok hn,Option.bind_some,if_pos rfl]
 dsimp only
 rw[if_neg Oz,eq,i64N18 hq,Option.bind_some,if_neg Oz,er,unsM hq,Option.bind_some,unsM hr,Option.bind_some]
theorem divP_ok{a g:Int}(ha:S18 a)(hg:0<g)(hg2:S18 g)(hd:g∣a):z148 (zw a) (zw g)=some (zw (a / g),zw 0):=by
 unfold z148
 have hm:a.natAbs % g.natAbs=0:=Nat.mod_eq_zero_of_dvd (Int.natAbs_dvd_natAbs.mpr hd)
 have hz:¬(decide (((zw g).2.length:Int)=0))=true:=by
  have:(zw g).2.length≠0:=fun h=>by have:=dg_len0.mp h;omega
  rw[decide_eq_true_eq];omega
 rw[if_neg hz,show z217 (zw a).2 (zw g).2=_ from divide_ok ha hg2 Oz,Option.bind_some,hm]
 have hs:sg (!(decide (a<0)==decide (g<0))) (a.natAbs / g.natAbs)=a / g:=sg_div hg hd
 have eg:(zw g).1=false:=decide_eq_false Oz
 have e0:zw ((0:Nat):Int)=(false,[]):=xA
 rw[decide_eq_false (show ¬g<0 by omega)]at hs
 dsimp only
 rw[eg,e0,←xA]
 show(if decide (a<0)=true then _ else _)=_
 generalize a.natAbs / g.natAbs=q at hs
 by_cases h:a<0
 ·have ea:(zw a).1=true:=decide_eq_true h
  rw[decide_eq_true h]at hs ⊢
  rw[if_pos rfl,xA,if_neg Y8,ea,if_pos (by rfl),←hs,yQ]
  by_cases hq:q=0
  ·subst hq;rw[show sg (!(true==false)) 0=0 from rfl,xA,xb];rfl
  ·have:(dg q).length≠0:=fun h=>hq (dg_len0.mp h)
   rw[encZ_sg hq]
   show some ((decide (0<((dg q).length:Int)),dg q),_)=_
   rw[decide_eq_true Oz];rfl
 ·have ea:(zw a).1=false:=decide_eq_false h
  rw[decide_eq_false h]at hs ⊢
  rw[if_neg Uz,ea,if_neg Uz,←hs,yQ,show sg (!(false==false)) q=(q:Int)from rfl,yQ,xA]
theorem negP_ok(n:Int):z214 (zw n)=some (zw (-n)):=by
 unfold z214
 show(if (!decide (n<0))=true then some (decide (0<((dg n.natAbs).length:Int)),dg n.natAbs)else some (false,dg n.natAbs))=some (decide (-n<0),dg (-n).natAbs)
 rw[Int.natAbs_neg]
 have hl:=dg_len0 (n:=n.natAbs)
 by_cases h:n<0
 ·rw[decide_eq_true h,if_neg Uz,decide_eq_false Oz]
 ·rw[decide_eq_false h,if_pos (by rfl)]
  congr 2
  rw[decide_eq_decide]
  omega
theorem lowest_ok{P U:Int}(hU:S18 U):z149 (zw P) (zw U)=some (zw (if U<0 then -P else P),if decide ((if U<0 then -U else U)=1)=true then(false,[])else zw (if U<0 then -U else U)):=by
 unfold z149
 show(if decide (U<0)=true then _ else _)=_
 by_cases h:U<0
 ·rw[if_pos (decide_eq_true h),if_pos h,if_pos h,negP_ok,negP_ok,Option.bind_some,Option.bind_some,unit_ok (s18_neg hU),Option.bind_some]
  split<;>rfl
 ·rw[if_neg (by rw[decide_eq_true_eq];exact h),if_neg h,if_neg h,unit_ok hU,Option.bind_some]
  split<;>rfl
theorem encQ_den{q:Rat}{z:Int}(h:(q.den:Int)=z):(if q.den=1 then(false,([]:List Int))else zw (q.den:Int))=if decide (z=1)=true then(false,[])else zw z:=by
 subst h
 by_cases h:q.den=1
 ·rw[if_pos h,if_pos (decide_eq_true Oz)]
 ·rw[if_neg h,if_neg (by rw[decide_eq_true_eq];omega)]
theorem makeP_ok{p q:Int}(hp:S18 p)(hq:S18 q)(h0:q≠0):z83 (zw p) (zw q)=some (zO (Rat.divInt p q)):=by
 unfold z83
 have lq:(zw q).2.length≠0:=fun h=>by have:=dg_len0.mp h;omega
 rw[if_neg (by rw[decide_eq_true_eq];omega)]
 by_cases p0:p=0
 ·subst p0
  rw[if_pos (by rw[xA];rfl),Rat.zero_divInt,xL,if_pos (show(0:Rat).den=1 from rfl),show(0:Rat).num=0 from rfl,xA]
 have lp:(zw p).2.length≠0:=fun h=>by have:=dg_len0.mp h;omega
 rw[if_neg (by rw[decide_eq_true_eq];omega),gcdP_ok hp hq h0,Option.bind_some]
 have hg:=gcd_lim (m:=p.natAbs) hq Oz
 have hgp:=gcd_pos (p:=p) h0
 have e1:=sign_mul_ediv (p:=p) h0
 have e2:=den_ediv (p:=p) h0
 have e3:=ediv_neg_iff (p:=p) h0
 have d1:((Nat.gcd p.natAbs q.natAbs:Nat):Int)∣p:=Int.ofNat_dvd_left.mpr (Nat.gcd_dvd_left _ _)
 have d2:((Nat.gcd p.natAbs q.natAbs:Nat):Int)∣q:=Int.ofNat_dvd_left.mpr (Nat.gcd_dvd_right _ _)
 generalize Nat.gcd p.natAbs q.natAbs=G at *
 rw[unit_ok (s18 hg),Option.bind_some,xL,encQ_den e2,e1]
 simp only[←e3]
 by_cases h1:G=1
 ·subst h1
  rw[if_neg Uz,lowest_ok hq,Option.bind_some,Int.natCast_one,Int.ediv_one,Int.ediv_one]
 ·rw[if_pos (by rw[decide_eq_false Oz];rfl),divP_ok hp Oz (s18 hg) d1,divP_ok hq Oz (s18 hg) d2,Option.bind_some,Option.bind_some,lowest_ok (s18_ediv hq d2),Option.bind_some]
theorem one_P:z145=some (zw 1):=by unfold z145;rw[ofP_ok Uz];rfl
theorem denP_ok(q:Rat):z82 (zO q)=some (zw (q.den:Int)):=by
 unfold z82
 rw[xL]
 by_cases hd:q.den=1
 ·rw[if_pos hd,if_pos (by rfl),one_P,hd];rfl
 ·have hl:(zw (q.den:Int)).2.length≠0:=fun g=>by rw[yQ]at g;exact q.den_nz (dg_len0.mp g)
  rw[if_neg hd,if_neg (by rw[decide_eq_true_eq];show ¬(((zw (q.den:Int)).2.length:Int)=0);omega)]
theorem whole_iff(q:Rat):decide (((zO q).2.2.length:Int)=0)=decide (q.den=1):=by
 rw[decide_eq_decide,xL]
 by_cases hd:q.den=1
 ·rw[if_pos hd];exact⟨fun _=>hd,fun _=>rfl⟩
 ·have hl:(zw (q.den:Int)).2.length≠0:=fun g=>by rw[yQ]at g;exact q.den_nz (dg_len0.mp g)
  rw[if_neg hd];exact⟨fun h=>absurd h (show ¬(((zw (q.den:Int)).2.length:Int)=0)by omega),fun h=>absurd h hd⟩
theorem zero_iff(q:Rat):decide (((zO q).1.2.length:Int)=0)=decide (q=0):=by
 rw[decide_eq_decide]
 have:(zO q).1.2.length=0↔q.num=0:=dg_len0.trans Int.natAbs_eq_zero
 rw[←Rat.num_eq_zero,←this]
 omega
theorem encQ_whole{q:Rat}(h:q.den=1):zO q=(zw q.num,false,[]):=by rw[xL,if_pos h]
theorem addP_Q{a b:Rat}(ha:Sm a)(hb:Sm b):z30 (zO a) (zO b)=some (zO (a+b)):=by
 unfold z30
 have h1:=ha.nd hb
 have h2:=hb.nd ha
 have h3:=ha.dd hb
 have e:((a.den:Int)*(b.den:Int))=((a.den*b.den:Nat):Int):=(Int.natCast_mul ..).symm
 rw[whole_iff,whole_iff,zero_iff,zero_iff,denP_ok,denP_ok,xB,xB]
 by_cases hw:a.den=1∧b.den=1
 ·obtain⟨e1,e2⟩:=add_int hw.1 hw.2
  rw[if_pos (decide_eq_true hw.1),if_pos (decide_eq_true hw.2),addP_ok ha.n hb.n,Option.bind_some,encQ_whole e2,e1]
 rw[if2 (by rw[decide_eq_true_eq,decide_eq_true_eq];exact hw)]
 by_cases a0:a=0
 ·subst a0;rw[if_pos (by rfl),Rat.zero_add]
 rw[if_neg (by rw[decide_eq_true_eq];exact a0)]
 by_cases b0:b=0
 ·subst b0;rw[if_pos (by rfl),Rat.add_zero]
 rw[if_neg (by rw[decide_eq_true_eq];exact b0),Option.bind_some,Option.bind_some,mulZP_ok ha.n hb.d,Option.bind_some,mulZP_ok hb.n ha.d,Option.bind_some,addP_ok (by unfold S18;omega) (by unfold S18;omega),Option.bind_some,mulZP_ok ha.d hb.d,Option.bind_some,makeP_ok (by unfold S18;omega) (by rw[e];exact s18 Oz) (dd_ne a b),Option.bind_some,add_def]
theorem negP_Q(a:Rat):z139 (zO a)=some (zO (-a)):=by
 unfold z139
 rw[xB,negP_ok,Option.bind_some,xL (-a),xL a,Rat.neg_num,Rat.neg_den]
theorem subP_Q{a b:Rat}(ha:Sm a)(hb:Sm b):z79 (zO a) (zO b)=some (zO (a-b)):=by
 unfold z79
 rw[negP_Q,Option.bind_some,addP_Q ha hb.neg,Option.bind_some,Rat.sub_eq_add_neg]
theorem mulP_Q{a b:Rat}(ha:Sm a)(hb:Sm b):z122 (zO a) (zO b)=some (zO (a*b)):=by
 unfold z122
 rw[whole_iff,whole_iff,zero_iff,zero_iff,denP_ok,denP_ok,xB,xB]
 by_cases a0:a=0
 ·subst a0;rw[if_pos (by rfl),Rat.zero_mul];rw[encQ_whole rfl,show(0:Rat).num=0 from rfl,xA]
 rw[if_neg (by rw[decide_eq_true_eq];exact a0)]
 by_cases b0:b=0
 ·subst b0;rw[if_pos (by rfl),Rat.mul_zero];rw[encQ_whole rfl,show(0:Rat).num=0 from rfl,xA]
 rw[if_neg (by rw[decide_eq_true_eq];exact b0)]
 by_cases hw:a.den=1∧b.den=1
 ·obtain⟨e1,e2⟩:=mul_int hw.1 hw.2
  rw[if_pos (decide_eq_true hw.1),if_pos (decide_eq_true hw.2),mulZP_ok ha.n hb.n,Option.bind_some,encQ_whole e2,e1]
 rw[if2 (by rw[decide_eq_true_eq,decide_eq_true_eq];exact hw)]
 have da:=a.den_nz
 have db:=b.den_nz
 obtain⟨m1,m2⟩:=mul_across a b
 have b1:=bd_mkRat (n:=a.num) (d:=b.den)
 have b2:=bd_mkRat (n:=b.num) (d:=a.den)
 have ha1:=ha.1
 have ha2:=ha.2
 have hb1:=hb.1
 have hb2:=hb.2
 have x1:(mkRat a.num b.den).num.natAbs<500000000:=Nat.lt_of_le_of_lt b1.1 ha1
 have x2:(mkRat a.num b.den).den<500000000:=by have:=b1.2;omega
 have y1:(mkRat b.num a.den).num.natAbs<500000000:=Nat.lt_of_le_of_lt b2.1 hb1
 have y2:(mkRat b.num a.den).den<500000000:=by have:=b2.2;omega
 have sx:Sm (mkRat a.num b.den):=⟨x1,x2⟩
 have sy:Sm (mkRat b.num a.den):=⟨y1,y2⟩
 have h3:=sx.dd sy
 rw[Option.bind_some,makeP_ok ha.n hb.d Oz,Option.bind_some,Option.bind_some,makeP_ok hb.n ha.d Oz,Option.bind_some,Rat.divInt_ofNat,Rat.divInt_ofNat,xB,xB,mulZP_ok sx.n sy.n,Option.bind_some,denP_ok,denP_ok,Option.bind_some,Option.bind_some,mulZP_ok sx.d sy.d,Option.bind_some]
 have e:(((mkRat a.num b.den).den:Int)*((mkRat b.num a.den).den:Int))=((a*b).den:Int):=by rw[m2,Int.natCast_mul]
 have hn:¬((a*b).den:Int)<0:=by omega
 rw[←m1,e,lowest_ok (U:=((a*b).den:Int)) (s18 (by rw[m2];omega)),Option.bind_some]
 simp only[if_neg hn]
 rw[xL,encQ_den rfl]
theorem cmpZP_ok{m n:Int}(hm:S18 m)(hn:S18 n):z221 (zw m) (zw n)=some (zV m n):=by
 unfold z221
 have l1:=yv hm
 have l2:=yv hn
 have e1:z143 (zw n).2 (zw m).2=some (cmpN n.natAbs m.natAbs):=(compareP l2).trans (by rw[←cmpZ_dg];rfl)
 have e2:z143 (zw m).2 (zw n).2=some (cmpN m.natAbs n.natAbs):=(compareP l1).trans (by rw[←cmpZ_dg];rfl)
 rw[e1,e2,Option.bind_some,Option.bind_some]
 show(if (!(decide (m<0)==decide (n<0)))=true then(if decide (m<0)=true then _ else(if (!(decide (m<0)==decide (n<0)))=true then _ else _))else(if (!(decide (m<0)==decide (n<0)))=true then _ else(if decide (m<0)=true then _ else _)))=_
 by_cases h1:m<0<;>by_cases h2:n<0
 ·rw[decide_eq_true h1,decide_eq_true h2,if_neg Uz,if_neg Uz,if_pos rfl]
  congr 1
  unfold cmpN zV
  split<;>split<;>(try split)<;>(try split)<;>first|rfl|omega
 ·rw[decide_eq_true h1,decide_eq_false h2,if_pos Uz,if_pos rfl,zV,if_pos Oz]
 ·rw[decide_eq_false h1,decide_eq_true h2,if_pos Uz,if_neg Uz,if_pos Uz,zV,if_neg Oz,if_pos Oz]
 ·rw[decide_eq_false h1,decide_eq_false h2,if_neg Uz,if_neg Uz,if_neg Uz]
  congr 1
  unfold cmpN zV
  split<;>split<;>(try split)<;>(try split)<;>first|rfl|omega
theorem signP_ok(a:Rat):z193 (zO a)=some (zV a.num 0):=by
 unfold z193 z239
 rw[xB]
 show((if decide (a.num<0)=true then _ else(if decide (((dg a.num.natAbs).length:Int)=0)=true then _ else _)):Option Int).bind _=_
 have hl:=dg_len0 (n:=a.num.natAbs)
 unfold zV
 by_cases h:a.num<0
 ·rw[if_pos (decide_eq_true h),if_pos h];rfl
 ·rw[if_neg (by rw[decide_eq_true_eq];exact h),if_neg h]
  by_cases h0:a.num=0
  ·rw[if_pos (by rw[decide_eq_true_eq];omega),if_neg Oz];rfl
  ·rw[if_neg (by rw[decide_eq_true_eq];omega),if_pos Oz];rfl
theorem mul_sgn{x:Int}{d:Nat}(hd:d≠0):(x*(d:Int)<0↔x<0)∧(0<x*(d:Int)↔0<x):=by
 have h1:x<0→x*(d:Int)<0:=fun h=>Int.mul_neg_of_neg_of_pos h Oz
 have h2:0<x→0<x*(d:Int):=fun h=>Int.mul_pos h Oz
 have h3:x=0→x*(d:Int)=0:=fun h=>by rw[h,Int.zero_mul]
 omega
theorem cmpP_Q{a b:Rat}(ha:Sm a)(hb:Sm b):z159 (zO a) (zO b)=some (cmpQ a b):=by
 unfold z159
 have h1:=ha.nd hb
 have h2:=hb.nd ha
 have s1:=mul_sgn (x:=a.num) b.den_nz
 have s2:=mul_sgn (x:=b.num) a.den_nz
 have r1:zV a.num 0 = -1∨zV a.num 0=0∨zV a.num 0=1:=by unfold zV;split<;>(try split)<;>simp
 have r2:zV b.num 0 = -1∨zV b.num 0=0∨zV b.num 0=1:=by unfold zV;split<;>(try split)<;>simp
 have t1:S18 (zV a.num 0):=by rcases r1 with h|h|h<;>rw[h]<;>decide
 have t2:S18 (zV b.num 0):=by rcases r2 with h|h|h<;>rw[h]<;>decide
 rw[signP_ok,signP_ok,Option.bind_some,Option.bind_some,ofP_ok t1,ofP_ok t2,Option.bind_some,Option.bind_some,cmpZP_ok t1 t2,denP_ok,denP_ok,xB,xB,←cmpQ_eq]
 have hc:zV a.num 0≠zV b.num 0∨zV a.num 0=0→zV (zV a.num 0) (zV b.num 0)=zV (a.num*b.den) (b.num*a.den):=by
  intro h
  unfold zV at *
  split<;>split<;>(try split)<;>(try split)<;>(try split)<;>(try split)<;>omega
 by_cases c1:zV a.num 0=zV b.num 0
 ·rw[if_neg (by rw[decide_eq_true_eq];exact fun x=>x c1)]
  by_cases c2:zV a.num 0=0
  ·rw[if_pos (decide_eq_true c2),Option.bind_some,hc (.inr c2)]
  ·rw[if_neg (by rw[decide_eq_true_eq];exact c2),Option.bind_some,mulZP_ok ha.n hb.d,Option.bind_some,Option.bind_some,mulZP_ok hb.n ha.d,Option.bind_some,cmpZP_ok (by unfold S18;omega) (by unfold S18;omega),Option.bind_some]
 ·rw[if_pos (decide_eq_true c1),Option.bind_some,hc (.inl c1)]
theorem ofP_Q{p q:Int}(hp:p.natAbs<1000000000)(hq:q.natAbs<1000000000)(h0:0<q):z123 p q=some (zO (Rat.divInt p q)):=by
 unfold z123
 rw[ofP_ok (by unfold S18;omega),Option.bind_some,ofP_ok (by unfold S18;omega),Option.bind_some,makeP_ok (by unfold S18;omega) (by unfold S18;omega) Oz]
 rfl
theorem sameP1{s t:Bool}{la lb:List Int}(h3:la.length≤2):z174 (s,la) (t,lb)=some (decide ((s,la)=(t,lb))):=by
 unfold z174
 show(if (s==t)=true then(if decide ((la.length:Int)≠(lb.length:Int))=true then _ else _)else _)=_
 by_cases h:s=t
 ·subst h
  rw[if_pos Y8]
  by_cases hl:la.length=lb.length
  ·rw[if_neg (by simp[hl]),sameL hl h3 Uz]
   congr 1
   rw[decide_eq_decide,Prod.mk.injEq]
   simp
  ·rw[if_pos (by rw[decide_eq_true_eq];omega),decide_eq_false]
   rintro h
   exact hl (congrArg (fun x=>x.2.length) h)
 ·rw[if_neg (by simpa using h),decide_eq_false]
  rintro g
  exact h (congrArg Prod.fst g)
theorem sameP_Q{a b:Rat}(ha:Sm a):z106 (zO a) (zO b)=some (decide (a=b)):=by
 unfold z106
 obtain⟨l1,l2⟩:=encQ_len ha
 rw[show z174 (zO a).1 (zO b).1=_ from sameP1 l1,show z174 (zO a).2 (zO b).2=_ from sameP1 l2,Option.bind_some]
 exact same_dec rfl rfl
theorem validZP_ok{n:Int}(hn:S18 n):z196 (zw n)=some true:=by
 unfold z196
 have hl:=yv hn
 have hd:=xV n.natAbs
 refine zi (dg n.natAbs).length (fun i (x:Int)=>x=(i:Int)) (fun o=>o=some true) Oz rfl ?_ ?_
 ·rintro i x g hi rfl hg
  have:=hd.at i
  have e:idx (zw n).2 (i:Int)=some ((dg n.natAbs).getD i 0):=yx hi
  rw[if_pos (show decide ((i:Int)<((zw n).2.length:Int))=true from zr hi),e,Option.bind_some,z245,if_neg (by rw[decide_eq_true_eq];omega),Option.bind_some,if_neg (by rw[decide_eq_true_eq];omega),zl Oz,Option.bind_some]
  exact hg _ rfl
 ·rintro x g rfl
  rw[if_neg (by simp[zw])]
  show(if decide (((dg n.natAbs).length:Int)=0)=true then(if (!decide (n<0))=true then _ else _)else(if decide (0<((dg n.natAbs).length:Int))=true then(i64 (((dg n.natAbs).length:Int)-1)).bind fun n5=>(idx (dg n.natAbs) n5).bind _ else _))=_
  by_cases h0:(dg n.natAbs).length=0
  ·have:=dg_len0.mp h0
   rw[if_pos (by rw[h0];rfl),decide_eq_false Oz]
   rfl
  ·have e:((dg n.natAbs).length:Int)-1=(((dg n.natAbs).length-1:Nat):Int):=by omega
   have h:=last_ne hn h0
   rw[if_neg (by rw[decide_eq_true_eq];omega),if_pos (by rw[decide_eq_true_eq];omega),e,yF Oz,Option.bind_some,yx Oz,Option.bind_some,decide_eq_true h]
theorem validP_Q{a:Rat}(ha:Sm a):z120 (zO a)=some true:=by
 unfold z120
 have v0:z196 (false,[])=some true:=by rw[←xA];exact validZP_ok Uz
 have hd0:(a.den:Int)≠0:=by have:=a.den_nz;omega
 rw[xB,validZP_ok ha.n,Option.bind_some,if_neg Uz]
 rcases encQ_d ha with⟨hd,e⟩|⟨hd,e,hl⟩<;>rw[e]
 ·rw[v0,Option.bind_some,if_neg Uz,if_neg Uz,show z147 (false,[])=some false from rfl,Option.bind_some,if_neg Uz,if_pos (by rfl)]
 ·have e1:(zw (a.den:Int)).1=false:=by rw[yQ]
  rw[validZP_ok ha.d,Option.bind_some,if_neg Uz,e1,if_neg Uz,unit_ok ha.d,Option.bind_some,if_neg (by rw[decide_eq_true_eq];omega),if_neg (by rw[decide_eq_true_eq];omega),gcdP_ok ha.n ha.d hd0,encQ_valid ha hd,Option.bind_some,unit_ok Uz]
  rfl
end Go.Proofs.YtocnbjjmmgolfaaGreat
namespace Go.Proofs.YtocnbjjmmgolfaaGreat
open Go Go.M Go.Proofs.C14
def xn(a b:Rat):Option Rat:=if Sm a∧Sm b then some (a+b)else none
def subG(a b:Rat):Option Rat:=if Sm a∧Sm b then some (a-b)else none
def xg(a b:Rat):Option Rat:=if Sm a∧Sm b then some (a*b)else none
def negG(a:Rat):Option Rat:=if Sm a then some (-a)else none
def zW(a b:Rat):Option Int:=if Sm a∧Sm b then some (cmpQ a b)else none
def xe(a:Rat):Option Int:=if Sm a then some (zV a.num 0)else none
def sameG(a b:Rat):Option Bool:=if Sm a∧Sm b then some (decide (a=b))else none
def yG(a:Rat):Option Bool:=if Sm a then some true else none
def ofG(p q:Int):Option Rat:=if p.natAbs<1000000000∧q.natAbs<1000000000∧0<q then some (Rat.divInt p q)else none
theorem DecL.next{Γ:TypeId→Option Ty}{T:FuncId→Option Con}{Hs:FuncId→List Hi}{rs:List Nat}{g:FuncId}{ar:List Ty}{τ:Ty}{z:Tp ar→Option τ.T}(hT:ConOK T)(ht:okTs ar=true)(he:∀x,zK Γ T Hs rs g ar τ x=z x):DecL g (hdN rs) ar τ z:=by
 rw[←show zK Γ T Hs rs g ar τ=z from funext he]
 exact zK_ok hT ht
theorem yV{α:Type}{p:Prop}[Decidable p]{x r:α}(h:(if p then some x else none)=some r):p∧r=x:=by
 split at h
 ·next hp=>exact⟨hp,(Option.some.inj h).symm⟩
 ·cases h
theorem rat2{f:FuncId}{k:Nat}{z:T34n.T→T34n.T→Option T34n.T}{G:Rat→Rat→Option Rat}(h:DecL f k [T34n,T34n] T34n fun x=>z x.1 x.2)(hz:∀a b r,G a b=some r→z (zO a) (zO b)=some (zO r)):DecL f k [.rat,.rat] .rat fun x=>G x.1 x.2:=by
 intro I hI s hf W hW vs x hx r hr hroom
 exact h hI hf hW (x:=(zO x.1,zO x.2)) hx (hz _ _ _ hr) hroom
theorem rat1{f:FuncId}{k:Nat}{z:T34n.T→Option T34n.T}{G:Rat→Option Rat}(h:DecL f k [T34n] T34n z)(hz:∀a r,G a=some r→z (zO a)=some (zO r)):DecL f k [.rat] .rat G:=by
 intro I hI s hf W hW vs x hx r hr hroom
 exact h hI hf hW (x:=zO x) hx (hz _ _ hr) hroom
theorem rat2o{f:FuncId}{k:Nat}{τ:Ty}{z:T34n.T→T34n.T→Option τ.T}{G:Rat→Rat→Option τ.T}(h:DecL f k [T34n,T34n] τ fun x=>z x.1 x.2)(hz:∀a b r,G a b=some r→z (zO a) (zO b)=some r):DecL f k [.rat,.rat] τ fun x=>G x.1 x.2:=by
 intro I hI s hf W hW vs x hx r hr hroom
 exact h hI hf hW (x:=(zO x.1,zO x.2)) hx (hz _ _ _ hr) hroom
theorem rat1o{f:FuncId}{k:Nat}{τ:Ty}{z:T34n.T→Option τ.T}{G:Rat→Option τ.T}(h:DecL f k [T34n] τ z)(hz:∀a r,G a=some r→z (zO a)=some r):DecL f k [.rat] τ G:=by
 intro I hI s hf W hW vs x hx r hr hroom
 exact h hI hf hW (x:=zO x) hx (hz _ _ hr) hroom
theorem int2{f:FuncId}{k:Nat}{z:Int→Int→Option T34n.T}{G:Int→Int→Option Rat}(h:DecL f k [.int .i64,.int .i64] T34n fun x=>z x.1 x.2)(hz:∀a b r,G a b=some r→z a b=some (zO r)):DecL f k [.int .i64,.int .i64] .rat fun x=>G x.1 x.2:=by
 intro I hI s hf W hW vs x hx r hr hroom
 exact h hI hf hW hx (hz _ _ _ hr) hroom
theorem dAddP:DecL 30 400 [.rat,.rat] .rat fun x=>xn x.1 x.2:=rat2 (tn30 30 _ rfl) fun a b r h=>by obtain⟨⟨ha,hb⟩,rfl⟩:=yV h;exact addP_Q ha hb
theorem dSubP:DecL 79 408 [.rat,.rat] .rat fun x=>subG x.1 x.2:=rat2 (tn79 79 _ rfl) fun a b r h=>by obtain⟨⟨ha,hb⟩,rfl⟩:=yV h;exact subP_Q ha hb
theorem dMulP:DecL 122 579 [.rat,.rat] .rat fun x=>xg x.1 x.2:=rat2 (tn122 122 _ rfl) fun a b r h=>by obtain⟨⟨ha,hb⟩,rfl⟩:=yV h;exact mulP_Q ha hb
theorem dCmpP:DecL 159 102 [.rat,.rat] (.int .i64) fun x=>zW x.1 x.2:=rat2o (tn159 159 _ rfl) fun a b r h=>by obtain⟨⟨ha,hb⟩,rfl⟩:=yV h;exact cmpP_Q ha hb
theorem dNegP:DecL 139 5 [.rat] .rat negG:=rat1 (tn139 139 _ rfl) fun a r h=>by obtain⟨ha,rfl⟩:=yV h;exact negP_Q a
theorem dSignP:DecL 193 3 [.rat] (.int .i64) xe:=rat1o (tn193 193 _ rfl) fun a r h=>by obtain⟨ha,rfl⟩:=yV h;exact signP_ok a
theorem dAddR:DecL 36 1795 [.rat,.rat] .rat fun x=>xn x.1 x.2:=rat2 (tn36 36 _ rfl) fun a b r h=>by obtain⟨⟨ha,hb⟩,rfl⟩:=yV h;exact addR_ok ha hb
theorem dSubR:DecL 98 1810 [.rat,.rat] .rat fun x=>subG x.1 x.2:=rat2 (tn98 98 _ rfl) fun a b r h=>by obtain⟨⟨ha,hb⟩,rfl⟩:=yV h;exact subR_ok ha hb
theorem dMulR:DecL 99 1630 [.rat,.rat] .rat fun x=>xg x.1 x.2:=rat2 (tn99 99 _ rfl) fun a b r h=>by obtain⟨⟨ha,hb⟩,rfl⟩:=yV h;exact mulR_ok ha hb
theorem dCmpR:DecL 135 112 [.rat,.rat] (.int .i64) fun x=>zW x.1 x.2:=rat2o (tn135 135 _ rfl) fun a b r h=>by obtain⟨⟨ha,hb⟩,rfl⟩:=yV h;exact cmpR_ok ha hb
theorem dNegR:DecL 38 12 [.rat] .rat negG:=rat1 (tn38 38 _ rfl) fun a r h=>by obtain⟨ha,rfl⟩:=yV h;exact negR_ok ha
theorem dSignR:DecL 80 14 [.rat] (.int .i64) xe:=rat1o (tn80 80 _ rfl) fun a r h=>by obtain⟨ha,rfl⟩:=yV h;exact signR_ok ha
theorem dSameP:DecL 106 12 [.rat,.rat] .bool fun x=>sameG x.1 x.2:=rat2o (tn106 106 _ rfl) fun a b r h=>by obtain⟨⟨ha,_⟩,rfl⟩:=yV h;exact sameP_Q ha
theorem dSameR:DecL 109 18 [.rat,.rat] .bool fun x=>sameG x.1 x.2:=rat2o (tn109 109 _ rfl) fun a b r h=>by obtain⟨⟨ha,_⟩,rfl⟩:=yV h;exact sameR_ok ha
theorem dValidP:DecL 120 103 [.rat] .bool yG:=rat1o (tn120 120 _ rfl) fun a r h=>by obtain⟨ha,rfl⟩:=yV h;exact validP_Q ha
theorem dValidR:DecL 110 805 [.rat] .bool yG:=rat1o (tn110 110 _ rfl) fun a r h=>by obtain⟨ha,rfl⟩:=yV h;exact validR_ok ha
theorem dOfP:DecL 123 241 [.int .i64,.int .i64] .rat fun x=>ofG x.1 x.2:=int2 (tn123 123 _ rfl) fun a b r h=>by obtain⟨⟨ha,hb,h0⟩,rfl⟩:=yV h;exact ofP_Q ha hb h0
theorem dOfR:DecL 20 1564 [.int .i64,.int .i64] .rat fun x=>ofG x.1 x.2:=int2 (tn20 20 _ rfl) fun a b r h=>by obtain⟨⟨ha,hb,h0⟩,rfl⟩:=yV h;exact ofR_ok ha hb h0
end Go.Proofs.YtocnbjjmmgolfaaGreat
namespace Go.Proofs.YtocnbjjmmgolfaaGreat
open Go Go.M Go.Proofs.C14
def QB(D N:Nat)(x:Rat):Prop:=∃n:Int,x*(D:Rat)=(n:Rat)∧n.natAbs≤N
theorem rat_cross{D:Nat}{n:Int}{x:Rat}(hn:x*(D:Rat)=(n:Rat)):x.num*(D:Int)=n*(x.den:Int):=by
 have hx:(x.num:Rat)=x*(x.den:Rat):=by
  have h:=Rat.num_divInt_den x
  rw[Rat.divInt_eq_div]at h
  have hd:((x.den:Int):Rat)≠0:=by
   have:=x.den_nz
   exact_mod_cast this
  have h2:(x.num:Rat) / ((x.den:Int):Rat)*((x.den:Int):Rat)=(x.num:Rat):=Rat.div_mul_cancel hd
  rw[h]at h2
  rw[←h2]
  rfl
 have:(x.num:Rat)*(D:Rat)=(n:Rat)*(x.den:Rat):=by rw[hx,←hn];grind
 exact_mod_cast this
theorem QB.num{D N:Nat}{x:Rat}(hD:0<D)(h:QB D N x):x.num.natAbs≤N∧x.den≤D:=by
 obtain⟨n,hn,hN⟩:=h
 have h1:=rat_cross hn
 have hc:=x.reduced
 have h2:x.den∣D:=by
  have h3:x.den∣x.num.natAbs*D:=by
   have:(x.num*(D:Int)).natAbs=(n*(x.den:Int)).natAbs:=by rw[h1]
   rw[Int.natAbs_mul,Int.natAbs_mul,Int.natAbs_natCast,Int.natAbs_natCast]at this
   rw[this]
   exact Nat.dvd_mul_left _ _
  exact Nat.Coprime.dvd_of_dvd_mul_left (Nat.Coprime.symm hc) h3
 refine⟨?_,Nat.le_of_dvd hD h2⟩
 obtain⟨k,hk⟩:=h2
 have h4:x.num.natAbs*k=n.natAbs:=by
  have:(x.num*(D:Int)).natAbs=(n*(x.den:Int)).natAbs:=by rw[h1]
  rw[Int.natAbs_mul,Int.natAbs_mul,Int.natAbs_natCast,Int.natAbs_natCast,hk]at this
  have hp:=x.den_pos
  have:x.den*(x.num.natAbs*k)=x.den*n.natAbs:=by rw[Nat.mul_comm x.den n.natAbs,←this];ac_rfl
  exact Nat.eq_of_mul_eq_mul_left hp this
 have hk0:0<k:=by
  rcases Nat.eq_zero_or_pos k with rfl|h
  ·omega
  ·exact h
 have:x.num.natAbs*1≤x.num.natAbs*k:=Nat.mul_le_mul_left _ hk0
 omega
theorem QB.sm{D N:Nat}{x:Rat}(h:QB D N x)(hD:0<D∧D<500000000∧N<500000000):Sm x:=by
 have:=h.num hD.1
 exact⟨by omega,by omega⟩
theorem QB.int{n:Int}{N:Nat}(h:n.natAbs≤N):QB 1 N (n:Rat):=⟨n,by grind,h⟩
theorem QB.add{D N M:Nat}{x y:Rat}(h:QB D N x)(g:QB D M y):QB D (N+M) (x+y):=by
 obtain⟨n,hn,hN⟩:=h
 obtain⟨m,hm,hM⟩:=g
 exact⟨n+m,by rw[Rat.add_mul,hn,hm];push_cast;rfl,by omega⟩
theorem QB.neg{D N:Nat}{x:Rat}(h:QB D N x):QB D N (-x):=by
 obtain⟨n,hn,hN⟩:=h
 exact⟨-n,by rw[Rat.neg_mul,hn];push_cast;rfl,by omega⟩
theorem QB.sub{D N M:Nat}{x y:Rat}(h:QB D N x)(g:QB D M y):QB D (N+M) (x-y):=by
 rw[Rat.sub_eq_add_neg];exact h.add g.neg
theorem QB.mul{D E N M:Nat}{x y:Rat}(h:QB D N x)(g:QB E M y):QB (D*E) (N*M) (x*y):=by
 obtain⟨n,hn,hN⟩:=h
 obtain⟨m,hm,hM⟩:=g
 refine⟨n*m,?_,by rw[Int.natAbs_mul];exact Nat.mul_le_mul hN hM⟩
 push_cast
 rw[←hn,←hm]
 grind
theorem QB.up{D N k:Nat}{x:Rat}(h:QB D N x):QB (D*k) (N*k) x:=by
 obtain⟨n,hn,hN⟩:=h
 refine⟨n*k,?_,by rw[Int.natAbs_mul,Int.natAbs_natCast];exact Nat.mul_le_mul_right _ hN⟩
 push_cast
 rw[←hn]
 grind
theorem QB.le{D N M:Nat}{x:Rat}(h:QB D N x)(g:N≤M):QB D M x:=by
 obtain⟨n,hn,hN⟩:=h
 exact⟨n,hn,by omega⟩
theorem yr{a b:Rat}(ha:Sm a)(hb:Sm b):xn a b=some (a+b):=if_pos ⟨ha,hb⟩
theorem qd{a b:Rat}(ha:Sm a)(hb:Sm b):subG a b=some (a-b):=if_pos ⟨ha,hb⟩
theorem yU{a b:Rat}(ha:Sm a)(hb:Sm b):xg a b=some (a*b):=if_pos ⟨ha,hb⟩
theorem xf{a:Rat}(ha:Sm a):negG a=some (-a):=if_pos ha
theorem yJ{a b:Rat}(ha:Sm a)(hb:Sm b):zW a b=some (cmpQ a b):=if_pos ⟨ha,hb⟩
theorem sameG_ok{a b:Rat}(ha:Sm a)(hb:Sm b):sameG a b=some (decide (a=b)):=if_pos ⟨ha,hb⟩
theorem validG_ok{a:Rat}(ha:Sm a):yG a=some true:=if_pos ha
theorem signG_ok{a:Rat}(ha:Sm a):xe a=some (zV a.num 0):=if_pos ha
end Go.Proofs.YtocnbjjmmgolfaaGreat
